/-
  The generic layer, part 41: a slice that is nil is one of no elements: what is plain stands for less, and an empty array may lie behind it. (with the parts that follow it) (with the parts that follow it)
-/
import Derived.Test.YthfodompfpdmgaaGreatDoorVPD
import Derived.Test.YthfodompfpdmgaaGreatDoorVPA
import Derived.Maps.RangeRun
import Derived.RangeFuncRecord
import Derived.RangeFuncSeq
set_option linter.all false
namespace Go.Ab
def Wk (a b:D):Prop:=∀ (H:Array Obj) (own:Nat→Prop) (v:Value),Rep H own v a→Rep H own v b
theorem Wk.refl (a:D):Wk a a:=fun _ _ _ h=>h
theorem Wk.trans {a b c:D} (h:Wk a b) (g:Wk b c):Wk a c:=fun H own v x=>g H own v (h H own v x)
theorem Wk.nils (w:W):Wk .nils (.sl w []):=fun _ _ _ h=>by
 cases h
 exact .sl0 none 0 w
theorem Wk.agg {a0s bs:List D} (hl:a0s.length=bs.length) (hs:∀ b∈bs,b.scal=true) (h:∀ (i:Nat) a b,a0s[i]?=some a→bs[i]?=some b→Wk a b):Wk (.agg a0s) (.agg bs):=fun H own v x=>by
 cases x with
 | agg vs _ h1 _ h3 =>
   refine .agg vs bs (h1.trans hl) hs fun i b hb=>?_
   have:i<a0s.length:=by rw [hl];exact (List.getElem?_eq_some_iff.1 hb).1
   exact h i _ b (List.getElem?_eq_getElem this) hb H own _ (h3 i _ (List.getElem?_eq_getElem this))
theorem Wk.sl {w:W} {a0s bs:List D} (hl:a0s.length=bs.length) (hw:∀ b∈bs,okW w b) (h:∀ (i:Nat) a b,a0s[i]?=some a→bs[i]?=some b→a.cells.length=b.cells.length∧∀ (j:Nat) c d,a.cells[j]?=some c→b.cells[j]?=some d→Wk c d):Wk (.sl w a0s) (.sl w bs):=fun H own v x=>by
 cases x with
 | sl0 a cap _ =>
   have:bs=[]:=List.length_eq_zero_iff.1 hl.symm
   subst this
   exact .sl0 a cap w
 | sl b o cap c e fz _ _ hb hn hcap hz _ hr =>
   rw [hl]
   refine .sl b o cap c e fz w bs hb hn (by omega) (by rw [← hl];exact hz) hw fun i x j d hi hj=>?_
   have hlt:i<a0s.length:=by rw [hl];exact (List.getElem?_eq_some_iff.1 hi).1
   obtain ⟨g1,g2⟩:=h i _ x (List.getElem?_eq_getElem hlt) hi
   have hj2:j<(a0s[i]).cells.length:=by rw [g1];exact (List.getElem?_eq_some_iff.1 hj).1
   exact g2 j _ d (List.getElem?_eq_getElem hj2) hj H own _ (hr i _ j _ (List.getElem?_eq_getElem hlt) (List.getElem?_eq_getElem hj2))
def WkL:List D→List D→Prop
 | [],[]=>True
 | a::a0s,b::bs=>Wk a b∧WkL a0s bs
 | _,_=>False
theorem WkL.get:∀ {a0s bs:List D},WkL a0s bs→a0s.length=bs.length∧∀ (i:Nat) a b,a0s[i]?=some a→bs[i]?=some b→Wk a b
 | [],[],_=>⟨rfl,fun _ _ _ h=>by simp at h⟩
 | _::_,_::_,h=>by
   obtain ⟨g1,g2⟩:=WkL.get h.2
   refine ⟨by simp [g1],fun i a b ha hb=>?_⟩
   cases i with
   | zero=>simp at ha hb;subst ha;subst hb;exact h.1
   | succ i=>exact g2 i a b (by simpa using ha) (by simpa using hb)
 | [],_::_,h=>h.elim
 | _::_,[],h=>h.elim
theorem VR.wk {H:Array Obj} {own:Nat→Prop} {used:List Nat} {hp:Name→Option Ob} {β:Name→Option Blk} {v:Value} {a b:D} (h:Wk a b) (hv:VR H own used hp β v (.d a)):VR H own used hp β v (.d b) :=
 .d _ _ (h _ _ _ hv.toD)
section
variable {P:Program}
theorem Sim.vt {B:Base} {β:Name→Option Blk} {s s':St} {tm:Array Value} {w:World} (h:Sim B β s tm w) (h1:s'.hp=s.hp) (h2:s'.used=s.used) (h3:∀ t,s'.fr t=s.fr t∨∃ a b,s.fr t=.d a∧s'.fr t=.d b∧Wk a b):Sim B β s' tm w:=by
 obtain ⟨fr,hp,us⟩:=s
 obtain ⟨fr2,hp2,us2⟩:=s'
 simp only at h1 h2 h3
 subst h1;subst h2
 exact { tms:=h.tms,io:=h.io,size:=h.size,frame:=h.frame,slots:=fun t=>(by
  have:=h.slots t
  rcases h3 t with e | ⟨a,b,e1,e2,hw⟩
  ·show VR _ _ _ _ _ _ (fr2 t)
   rw [e];exact this
  ·show VR _ _ _ _ _ _ (fr2 t)
   rw [e2]
   have this:VR _ _ _ _ _ _ (fr t):=this
   rw [e1] at this
   exact this.wk hw),objs:=h.objs,blocks:=h.blocks,inj:=h.inj,us:=h.us,stay:=h.stay }
theorem HP.wk {G:List (Nat × Obj)} {f:FuncId} {a0s bs:List D} {Q:AV→Prop} (h:HP P G f bs Q) (hw:WkL a0s bs):HP P G f a0s Q:=by
 obtain ⟨g1,g2⟩:=hw.get
 refine ⟨h.1,fun B β vs w h1 h2 h3 h4 hs=>h.2 B β vs w (by rw [h1];simp [g1]) h2 h3 h4 (hs.vt rfl rfl fun t=>?_)⟩
 rw [df,df,a8,a8,if_pos (Nat.zero_le _),if_pos (Nat.zero_le _),Nat.sub_zero,List.getElem?_map,List.getElem?_map]
 by_cases ht:t<a0s.length
 ·have ht':t<bs.length:=by omega
  rw [List.getElem?_eq_getElem ht,List.getElem?_eq_getElem ht']
  exact .inr ⟨_,_,rfl,rfl,g2 t _ _ (List.getElem?_eq_getElem ht) (List.getElem?_eq_getElem ht')⟩
 ·rw [List.getElem?_eq_none (by omega),List.getElem?_eq_none (by omega)]
  exact .inl rfl
theorem HP.wkr {G:List (Nat × Obj)} {f:FuncId} {a0s:List D} {Q Q':AV→Prop} (h:HP P G f a0s Q) (hw:∀ r,Q r→∃ a b,r=.d a∧Wk a b∧Q' (.d b)):HP P G f a0s Q':=by
 refine ⟨h.1,fun B β vs w h1 h2 h3 h4 hs=>(h.2 B β vs w h1 h2 h3 h4 hs).mono ?_⟩
 rintro e w' ⟨v,r,hp',u',β',rfl,⟨hQ,hin,rfl⟩,hsim⟩
 obtain ⟨a,b,rfl,hwk,hq⟩:=hw r hQ
 refine ⟨v,.d b,[],u',β',rfl,⟨hq,rfl,rfl⟩,hsim.vt rfl rfl fun t=>?_⟩
 rw [df,df,bd,bd,fZ]
 by_cases ht:t=0
 ·rw [if_pos ht,if_pos ht]
  exact .inr ⟨a,b,rfl,rfl,hwk⟩
 ·rw [if_neg ht,if_neg ht]
  exact .inl rfl
end
theorem Sim.rebox {B:Base} {β:Name→Option Blk} {s:St} {tm:Array Value} {w:World} (h:Sim B β s tm w) {p:Name} {ty:Option Nat} {cs cs':List AV} (hp:s.hp p=some (.boxT ty cs)) (hl:cs'.length=cs.length)
  (hv:∀ (v:Value) (j:Nat) x x',cs[j]?=some x→cs'[j]?=some x'→VR w.heap (s.own B.A β) s.used s.hp β v x→VR w.heap (s.own B.A β) s.used s.hp β v x'):Sim B β (s.set p (some (.boxT ty cs'))) tm w:=by
 have hhq:∀ q,q≠p→(s.set p (some (.boxT ty cs'))).hp q=s.hp q:=fun q h1=>by simp [St.set,aj,h1]
 have hhp:(s.set p (some (.boxT ty cs'))).hp p=some (.boxT ty cs'):=by simp [St.set,aj]
 have hnn:∀ q,(s.set p (some (.boxT ty cs'))).hp q≠none↔s.hp q≠none:=fun q=>by
  by_cases e:q=p
  ·subst e;rw [hhp,hp];simp
  ·rw [hhq q e]
 have hown:(s.set p (some (.boxT ty cs'))).own B.A β=s.own B.A β:=by
  funext b
  refine propext (or_congr_right ⟨?_,?_⟩)
  ·rintro ⟨q,l,hq,hl,rfl⟩;exact ⟨q,l,(hnn q).1 hq,hl,rfl⟩
  ·rintro ⟨q,l,hq,hl,rfl⟩;exact ⟨q,l,(hnn q).2 hq,hl,rfl⟩
 have hst:∀ q,nm s.used q→Stays s.hp (s.set p (some (.boxT ty cs'))).hp β β q:=by
  intro q _ o ho
  by_cases e:q=p
  ·subst e
   rw [hhp] at ho
   cases ho
   exact ⟨_,hp,by simp [Ob.like,hl],rfl⟩
  ·exact ⟨o,by rwa [hhq q e] at ho,Ob.aQ _,rfl⟩
 refine { tms:=h.tms,io:=h.io,size:=h.size,frame:=h.frame,slots:=fun i=>?_,objs:=?_,blocks:=fun q l hq hl=>h.blocks q l ((hnn q).1 hq) hl,inj:=fun q q' l l' hq hq'=>h.inj q q' l l' ((hnn q).1 hq) ((hnn q').1 hq'),us:=h.us,stay:=h.stay }
 ·rw [hown];exact (h.slots i).mono (fun _ _ h=>h) (fun _ h=>h) hst
 ·intro q o ho
  rw [hown]
  by_cases e:q=p
  ·subst e
   rw [hhp] at ho
   cases ho
   obtain ⟨h1,k,c,e,g1,g2,g3,g4,g5,g6,g7⟩:=h.objs q _ hp
   refine ⟨h1,k,c,e,g1,g2,g3,g4,by rw [g5,hl],g6,fun j x' hx'=>?_⟩
   have hlt:j<cs.length:=by rw [← hl];exact (List.getElem?_eq_some_iff.1 hx').1
   exact (hv _ j _ x' (List.getElem?_eq_getElem hlt) hx' (g7 j _ (List.getElem?_eq_getElem hlt))).mono (fun _ _ h=>h) (fun _ h=>h) hst
  ·rw [hhq q e] at ho
   obtain ⟨h1,h2⟩:=h.objs q o ho
   exact ⟨h1,h2.mono (fun _ _ h=>h) (fun _ h=>h) hst rfl fun _ _=>rfl⟩
theorem jM {H:Array Obj} {own:Nat→Prop} {used:List Nat} {hp:Name→Option Ob} {β:Name→Option Blk} {v:Value} {p:Name} {w:W} (hu:nm used p) (ho:hp p=some (.arr w [])) (h:VR H own used hp β v (.d .nils)):VR H own used hp β v (.vw p 0 0):=by
 have:=h.toD
 cases this
 exact .vw _ _ _ _ hu rfl fun ty' w' xs hx=>by
  rw [ho] at hx
  cases hx
  exact ⟨Nat.le_refl _,none,0,rfl,.inl ⟨rfl,rfl⟩⟩
section
variable {P:Program} {cf:Cf} {Q:Exit→St→Prop} {s:St} {k:List It}
theorem jh (E:Eng P cf Q) {c:Code} (t n:Nat) (w:W) (ht:s.fr t=.d .nils) (hn:n ∉ s.used) (h:bM E c ((s.add n (.arr w [])).put t (.vw [n] 0 0)) k):bM E c s k:=by
 intro B hB ds β a w' hds hs
 have h1:=hs.dP hn none w
 have h2:=h1.slots t
 rw [show (s.add n (.arr w [])).fr t=.d .nils from ht] at h2
 exact h B hB ds _ a w' hds (h1.setv (jM (w:=w) ⟨n,[],rfl,List.mem_cons_self⟩ (by simp [St.add,aj]) h2))
theorem bP (E:Eng P cf Q) {c:Code} (p:Name) (j n:Nat) (w:W) (cs:List AV) (hp:s.hp p=some (.box cs)) (hj:cs[j]?=some (.d .nils)) (hn:n ∉ s.used) (h:bM E c ((s.add n (.arr w [])).set p (some (.box (cs.set j (.vw [n] 0 0))))) k):bM E c s k:=by
 intro B hB ds β a w' hds hs
 have h1:=hs.dP hn none w
 have hpn:p≠[n]:=cK (hs.objs p _ hp).1 hn
 refine h B hB ds _ a w' hds (h1.rebox (cs:=cs) (by simpa [St.add,aj,hpn] using hp) (by simp) fun v i x x' hx hx' hv=>?_)
 by_cases e:j=i
 ·subst e
  rw [hj] at hx
  cases hx
  rw [List.getElem?_set_self (List.getElem?_eq_some_iff.1 hj).1] at hx'
  cases hx'
  exact jM (w:=w) ⟨n,[],rfl,List.mem_cons_self⟩ (by simp [St.add,aj]) hv
 ·rw [List.getElem?_set_ne e,hx] at hx'
  cases hx'
  exact hv
theorem EY (E:Eng P cf Q) {c:Code} (t:Nat) (a b:D) (ht:s.fr t=.d a) (hw:Wk a b) (h:bM E c (s.put t (.d b)) k):bM E c s k:=by
 intro B hB ds β a' w' hds hs
 have h2:=hs.slots t
 rw [ht] at h2
 exact h B hB ds _ a' w' hds (hs.setv (h2.wk hw))
attribute [go_sem] List.set_cons_zero List.set_cons_succ
end
end Go.Ab
namespace Go.Ab
def gv (c:Bool) (x:AV):AV:=if c=true then x else .tup []
def cb (c w:Bool):Bool:=if w=true then c else !c
theorem F4 (c:Bool):cb c true=c:=rfl
theorem F0 (c:Bool):cb c false=!c:=rfl
theorem Em (x:AV):gv true x=x:=rfl
theorem BW (x:AV):gv false x=.tup []:=rfl
def pk (c:Bool) (x y:AV):AV:=if c=true then x else y
theorem FW (x y:AV):pk true x y=x:=rfl
theorem F1 (x y:AV):pk false x y=y:=rfl
theorem EV (c b:Bool):pk c (.d (.bool true)) (gv (!c) (.d (.bool b)))=.d (.bool (c || b)):=by cases c<;>rfl
theorem Dh (c b:Bool):pk (!c) (.d (.bool true)) (gv c (.d (.bool b)))=.d (.bool (!c || b)):=by cases c<;>rfl
theorem CY (c b:Bool):pk c (gv c (.d (.bool b))) (.d (.bool false))=.d (.bool (c && b)):=by cases c<;>rfl
attribute [go_sem] Em BW F4 F0 FW F1 EV Dh CY Bool.not_not Option.bind_some
theorem C9 (p:Name) (d:D) (c:Bool) (x:AV):(gv c x).frB p d=gv c (x.frB p d):=by cases c<;>rfl
attribute [go_sem] C9
theorem Fs {c want:Bool} (h:c=want):cb c want=true:=by subst h;cases c<;>rfl
theorem Ew {c want:Bool} (h:¬ c=want):cb c want=false:=by cases c<;>cases want<;>first | rfl | exact absurd rfl h
section
variable {P:Program} {cf:Cf} {Q:Exit→St→Prop} {s:St} {k:List It}
theorem gQ (E:Eng P cf Q) {t:Nat} {c want:Bool} {all:Array Oper} {r:List Oper} {d:Nat} {op:Op} {ty:TypeId} {ps:String} {af:Array Edge} {g:Option (Nat × Bool)} {x:AV} (hd:d<cf.n)
  (hx:c=want→E.run (.ops all r::k) ((s.put t (.d (.bool want))).put d x)→E.stp { dst:=some d,op:=op,type:=ty,pos:=ps,after:=af,guard:=none } (s.put t (.d (.bool want))) (.ops all r::k) (opR P.ti cf.n op (some d) (s.put t (.d (.bool want)))))
  (h:E.run (.ops all r::k) ((s.put t (.d (.bool c))).put d (gv (cb c want) x))):E.gd want all { dst:=some d,op:=op,type:=ty,pos:=ps,after:=af,guard:=g } r s k (some (t,.d (.bool c))):=by
 by_cases hc:c=want
 ·have h1:=hx hc
  rw [Fs hc,Em] at h
  subst hc
  have h2:=h1 h
  cases c
  ·rw [vX];exact h2
  ·rw [vP];exact h2
 ·rw [Ew hc,BW] at h
  cases c<;>cases want<;>first
   | exact absurd rfl hc
   | (rw [vp,gy (h:=hd)];exact h)
   | (rw [uU,gy (h:=hd)];exact h)
theorem fu (E:Eng P cf Q) {t:Nat} {c e want:Bool} {all:Array Oper} {r:List Oper} {d:Nat} {op:Op} {ty:TypeId} {ps:String} {af:Array Edge} {g:Option (Nat × Bool)} {x:AV} (hd:d<cf.n) (hs:s.fr t=gv c (.d (.bool e)))
  (hx:c=true→e=want→E.run (.ops all r::k) ((s.put t (.d (.bool want))).put d x)→E.stp { dst:=some d,op:=op,type:=ty,pos:=ps,after:=af,guard:=none } (s.put t (.d (.bool want))) (.ops all r::k) (opR P.ti cf.n op (some d) (s.put t (.d (.bool want)))))
  (h:E.run (.ops all r::k) (s.put d (gv (c && cb e want) x))):E.gd want all { dst:=some d,op:=op,type:=ty,pos:=ps,after:=af,guard:=g } r s k (some (t,gv c (.d (.bool e)))):=by
 by_cases hc:c=true
 ·subst hc
  rw [Em] at hs ⊢
  refine gQ E hd (hx rfl) ?_
  rw [iz hs]
  exact h
 ·have hc:c=false:=by simpa using hc
  subst hc
  rw [BW]
  rw [Bool.false_and,BW] at h
  rw [uY,gy (h:=hd)]
  exact h
theorem lP (E:Eng P cf Q) {x:R St} {o:Oper} {s2:St} (h:x.run (fun s'=>s'=s2) False) (hk:E.run k s2):E.stp o s k x:=by
 induction x with
 | ok a=>rw [nF];obtain rfl:a=s2:=h;exact hk
 | need p r ih=>rw [mr];exact ⟨h.1,ih h.2⟩
 | no=>exact h.elim
theorem fp (E:Eng P cf Q) {t:Nat} {c want:Bool} {all:Array Oper} {r:List Oper} {d:Nat} {op:Op} {ty:TypeId} {ps:String} {af:Array Edge} {g:Option (Nat × Bool)} {x:AV} (hd:d<cf.n)
  (hx:c=want→(opR P.ti cf.n op (some d) (s.put t (.d (.bool want)))).run (fun s'=>s'=(s.put t (.d (.bool want))).put d x) False)
  (h:E.run (.ops all r::k) ((s.put t (.d (.bool c))).put d (gv (cb c want) x))):E.gd want all { dst:=some d,op:=op,type:=ty,pos:=ps,after:=af,guard:=g } r s k (some (t,.d (.bool c))) :=
 gQ E hd (fun hc hk=>lP E (hx hc) hk) h
theorem cV (E:Eng P cf Q) {t:Nat} {c e want:Bool} {all:Array Oper} {r:List Oper} {d:Nat} {op:Op} {ty:TypeId} {ps:String} {af:Array Edge} {g:Option (Nat × Bool)} {x:AV} (hd:d<cf.n) (hs:s.fr t=gv c (.d (.bool e)))
  (hx:c=true→e=want→(opR P.ti cf.n op (some d) (s.put t (.d (.bool want)))).run (fun s'=>s'=(s.put t (.d (.bool want))).put d x) False)
  (h:E.run (.ops all r::k) (s.put d (gv (c && cb e want) x))):E.gd want all { dst:=some d,op:=op,type:=ty,pos:=ps,after:=af,guard:=g } r s k (some (t,gv c (.d (.bool e)))) :=
 fu E hd hs (fun h1 h2 hk=>lP E (hx h1 h2) hk) h
theorem eK (E:Eng P cf Q) {d:Nat} {n:Nat} {c:Bool} {x y:AV} {o:Oper} (hd:d<n) (h:E.run k (s.put d (pk c x y))):E.stp o s k ((jL (.d (.bool c)) x y).bind (br n (some d) s)):=by
 cases c<;>(simp only [jL,R.bind,br,hd,if_true,nF];exact h)
theorem cT (E:Eng P cf Q) {t:Nat} {c want:Bool} {all:Array Oper} {r:List Oper} {d:Nat} {a b b':Operand} {ty:TypeId} {ps:String} {af:Array Edge} {g:Option (Nat × Bool)} {c2:Bool} {z:AV} (hd:d<cf.n)
  (hx:c=want→ev (s.put t (.d (.bool want))) a=.d (.bool c2)) (hz:c=want→pk c2 (ev (s.put t (.d (.bool want))) b) (ev (s.put t (.d (.bool want))) b')=z)
  (h:E.run (.ops all r::k) ((s.put t (.d (.bool c))).put d (gv (cb c want) z))):E.gd want all { dst:=some d,op:=.pick a b b',type:=ty,pos:=ps,after:=af,guard:=g } r s k (some (t,.d (.bool c))) :=
 gQ E hd (fun hc hk=>by
  have e:opR P.ti cf.n (.pick a b b') (some d) (s.put t (.d (.bool want)))=(jL (.d (.bool c2)) (ev (s.put t (.d (.bool want))) b) (ev (s.put t (.d (.bool want))) b')).bind (br cf.n (some d) (s.put t (.d (.bool want)))):=by
   rw [← hx hc];rfl
  rw [e]
  refine eK E hd ?_
  rw [hz hc]
  exact hk) h
theorem bH (E:Eng P cf Q) {t:Nat} {c e want:Bool} {all:Array Oper} {r:List Oper} {d:Nat} {a b b':Operand} {ty:TypeId} {ps:String} {af:Array Edge} {g:Option (Nat × Bool)} {c2:Bool} {z:AV} (hd:d<cf.n) (hs:s.fr t=gv c (.d (.bool e)))
  (hx:c=true→e=want→ev (s.put t (.d (.bool want))) a=.d (.bool c2)) (hz:c=true→e=want→pk c2 (ev (s.put t (.d (.bool want))) b) (ev (s.put t (.d (.bool want))) b')=z)
  (h:E.run (.ops all r::k) (s.put d (gv (c && cb e want) z))):E.gd want all { dst:=some d,op:=.pick a b b',type:=ty,pos:=ps,after:=af,guard:=g } r s k (some (t,gv c (.d (.bool e)))) :=
 fu E hd hs (fun h1 h2 hk=>by
  have e':opR P.ti cf.n (.pick a b b') (some d) (s.put t (.d (.bool want)))=(jL (.d (.bool c2)) (ev (s.put t (.d (.bool want))) b) (ev (s.put t (.d (.bool want))) b')).bind (br cf.n (some d) (s.put t (.d (.bool want)))):=by
   rw [← hx h1 h2];rfl
  rw [e']
  refine eK E hd ?_
  rw [hz h1 h2]
  exact hk) h
theorem aK (E:Eng P cf Q) (h:∀ (Q':Exit→St→Prop) (_:Q'=Q) (E':Eng P cf Q'),E'.run k s):E.run k s:=h Q rfl E
theorem vD (E:Eng P cf Q) {t e:TypeId} {x:Operand} {yt:TypeId} {dst:Nat} {ty:TypeId} {ps:String} {af:Array Edge} {w0:W} {xs:List D} (hk:(P.ti t).k=.slice e) (hd:dst<cf.n) (hx:ev s x=.d (.sl w0 xs))
  (h:∀ b:Bool,(b=true→xs=[])→E.run k (s.put dst (.d (.bool b)))) :
  E.stp { dst:=some dst,op:=.binOp .eql t x (.const (.slice none 0 0)) yt,type:=ty,pos:=ps,after:=af,guard:=none } s k .no :=
 za E false hk hd hx h
end
end Go.Ab
namespace Go.Ab
section
variable {P:Program}
theorem HCall.thaw {G:List (Nat × Obj)} {f:FuncId} {args:List AV} {hp:List (Name × Ob)} {u:List Nat} {Q Q':AV→List (Name × Ob)→Prop} (h:HCall P G f args hp u Q) (n:Nat) (w:W) (hn:n ∉ u)
  (hQ:∀ r hp',Q r hp'→Q' r hp'∨(r=.d .nils∧hp'=[]∧Q' (.vw [n] 0 0) [([n],.arr w [])])):HCall P G f args hp u Q':=by
 refine ⟨h.1,fun B β vs W h1 h2 h3 h4 h5=>?_⟩
 refine (h.2 B β vs W h1 h2 h3 h4 h5).mono ?_
 rintro e w' ⟨v,r,hp',u',β',he,hq,hs⟩
 rcases hQ r hp' hq with hq' | ⟨rfl,rfl,hq'⟩
 ·exact ⟨v,r,hp',u',β',he,hq',hs⟩
 ·have hle:Le ({ B with n:=1 }:Base).U0 id (mk [(0,.d .nils)] [] u') (mk [(0,.d .nils)] [] u):=by
   refine LeL.le ?_
   refine ⟨⟨⟨rfl,rfl⟩,trivial⟩,trivial,trivial,?_,trivial⟩
   rw [show ({ B with n:=1 }:Base).U0=u from h3]
   simp
  obtain ⟨β2,hs2,_⟩:=hs.le hle
  have h6:=hs2.dP (t:=n) (by rw [ag];exact hn) none w
  have h7:=h6.slots 0
  rw [show ((mk [(0,AV.d .nils)] [] u).add n (.arr w [])).fr 0=.d .nils from rfl] at h7
  have h8:=h6.setv (jM (p:=[n]) (w:=w) ⟨n,[],rfl,List.mem_cons_self⟩ (by simp [St.add,aj]) h7)
  have e2:((mk [(0,AV.d .nils)] [] u).add n (.arr w [])).put 0 (.vw [n] 0 0)=mk [(0,.vw [n] 0 0)] [([n],.arr w [])] (n::u):=by
   rw [zw,Al];rfl
  rw [e2] at h8
  exact ⟨v,_,_,_,_,he,hq',h8⟩
end
end Go.Ab

namespace Go.Proofs.YthfodompfpdmgaaGreatDoor
open Go.Ab
def ay (l:List Int):D:=.sl none (l.map i64)
def WkR (d:D) (r:AV):Prop:=∃ a,r=.d a∧Wk a d
theorem il {P:Program} {G:List (Nat × Obj)} {f:FuncId} {ds:List D} {d:D} (h:HP P G f ds (WkR d)):HP P G f ds (fun r=>r=.d d) :=
 h.wkr fun _ ⟨a,e,hw⟩=>⟨a,d,e,hw,rfl⟩
theorem yC {l:List Fld} {i:Nat} (h:i<l.length):(l.take i).map (fun f=>i64 f.2)++[i64 l[i].2]=(l.take (i+1)).map fun f=>i64 f.2:=by
 rw [List.take_succ_eq_append_getElem h,List.map_append]
 rfl
end Go.Proofs.YthfodompfpdmgaaGreatDoor

namespace Go.Proofs.YthfodompfpdmgaaGreatDoor
open Go.Ab
theorem dU {l:List Int} {i:Nat} (h:i<l.length):(l.map i64).getD i .nilp=i64 l[i]:=by simp [h]
theorem pV {G} (a b:List Int) (ha:a.length≤1000000):HP Tryz.prog G 20 [ay a,ay b] (fun r=>r=.d (.bool (decide (a=b)))):=by
 unfold ay
 refine aq Tryz.func20 rfl (by decide +kernel) (by simp [Tryz.ntmps20]) (veil fun E=>?_)
 simp only [go_sem]
 refine ak E (fun h0=>?_) (fun h0=>?_)<;>simp only [go_sem]
 ·have:a≠b:=fun e=>h0 (by rw [e])
  simp [this]
 have h0:a.length=b.length:=by omega
 refine aX E (X:={ i:Nat // i≤a.length∧a.take i=b.take i }) (fun x=>[(0,.d (.sl none (a.map i64))),(1,.d (.sl none (b.map i64))),(5,.d (i64 x.1))]) (fun x=>a.length-x.1) rfl ⟨0,Nat.zero_le _,rfl⟩ ?_ ?_
 ·simp only [go_sem]
  all_goals rfl
 rintro ⟨i,hi,hab⟩ E'
 simp only [go_sem]
 refine ak E' (fun h1=>?_) (fun h1=>?_)<;>simp only [go_sem]
 ·have h1':i<a.length:=by omega
  have h2':i<b.length:=by omega
  refine w6 mixed (by decide +kernel) E' fun E2=>?_
  simp only [go_sem]
  refine ⟨by omega,?_⟩
  rw [dU h1']
  simp only [go_sem]
  refine ⟨by omega,?_⟩
  rw [dU h2']
  simp only [go_sem]
  refine ak E' (fun h2=>?_) (fun h2=>?_)<;>simp only [go_sem]
  ·have:a≠b:=fun e=>h2 (by subst e;rfl)
   simp [this]
  ·refine ⟨⟨i+1,by omega,?_⟩,by show a.length-(i+1)<_;omega,?_⟩
   ·have h2:a[i]=b[i]:=by simpa using h2
    rw [List.take_succ_eq_append_getElem h1',List.take_succ_eq_append_getElem h2',hab,h2]
   ·rw [aa ⟨by omega,by omega⟩];rfl
 ·have h3:i=a.length:=by omega
  subst h3
  rw [List.take_length,h0,List.take_length] at hab
  simp [hab]
theorem DS {G} (l:List Int) (y:Int) (hl:l.length≤1000000):HP Tryz.prog G 77 [ay l,i64 y] (fun r=>r=.d (.bool (decide (y∈l)))):=by
 unfold ay
 refine aq Tryz.func77 rfl (by decide +kernel) (by simp [Tryz.ntmps77]) (veil fun E=>?_)
 simp only [go_sem]
 refine aX E (X:={ i:Nat // i≤l.length∧y ∉ l.take i }) (fun x=>[(0,.d (.sl none (l.map i64))),(1,.d (i64 y)),(5,.d (i64 x.1))]) (fun x=>l.length-x.1) rfl ⟨0,Nat.zero_le _,by simp⟩ ?_ ?_
 ·simp only [go_sem]
  all_goals rfl
 rintro ⟨i,hi,hab⟩ E'
 simp only [go_sem]
 refine ak E' (fun h1=>?_) (fun h1=>?_)<;>simp only [go_sem]
 ·have h1':i<l.length:=by omega
  refine ⟨by omega,?_⟩
  rw [dU h1']
  simp only [go_sem]
  refine ak E' (fun h2=>?_) (fun h2=>?_)<;>simp only [go_sem]
  ·have:y∈l:=by rw [← h2];exact List.getElem_mem h1'
   simp [this]
  ·refine ⟨⟨i+1,by omega,?_⟩,by show l.length-(i+1)<_;omega,?_⟩
   ·rw [List.take_succ_eq_append_getElem h1',List.mem_append,List.mem_singleton]
    rintro (h | h)
    ·exact hab h
    ·exact h2 h.symm
   ·rw [aa ⟨by omega,by omega⟩];rfl
 ·have h3:i=l.length:=by omega
  subst h3
  rw [List.take_length] at hab
  simp [hab]
end Go.Proofs.YthfodompfpdmgaaGreatDoor

namespace Go.Proofs.YthfodompfpdmgaaGreatDoor
open Go.Ab
theorem nf {α:Type} {p:α→Bool} {l:List α} {i:Nat} (h:i<l.length) (ha:(l.take i).any p=false) (hp:p l[i]=false):(l.take (i+1)).any p=false:=by
 rw [List.take_succ_eq_append_getElem h,List.any_append,ha,Bool.false_or]
 simp [hp]
theorem By {G} (l:List Int) (p:Int→Bool) (f:Nat) (caps:List D) (hl:l.length≤1000000) (hc:∀ x∈l,HP Tryz.prog G f (i64 x::caps) (fun r=>r=.d (.bool (p x)))) :
  HP Tryz.prog G 102 [ay l,.clo f caps] (fun r=>∃ z:Int,r=.d (i64 z)∧decide (0≤z)=l.any p):=by
 unfold ay
 have hget:∀ {i:Nat} (h:i<l.length),(l.map i64).getD i .nilp=i64 l[i]:=fun h=>dU h
 refine aq Tryz.func102 rfl (by decide +kernel) (by simp [Tryz.ntmps102]) (veil fun E=>?_)
 simp only [go_sem]
 refine aX E (X:={ i:Nat // i≤l.length∧(l.take i).any p=false }) (fun x=>[(0,.d (.sl none (l.map i64))),(1,.d (.clo f caps)),(6,.d (.sl none (l.map i64))),(7,.d (i64 l.length)),(8,.d (i64 x.1))]) (fun x=>l.length-x.1) rfl ⟨0,Nat.zero_le _,by simp⟩ ?_ ?_
 ·simp only [go_sem]
  all_goals rfl
 rintro ⟨i,hi,hab⟩ E'
 simp only [go_sem]
 refine ak E' (fun h1=>?_) (fun h1=>?_)<;>simp only [go_sem]
 ·have h1':i<l.length:=by omega
  refine ⟨by omega,?_⟩
  rw [hget h1']
  simp only [go_sem]
  refine uV E' (hc l[i] (List.getElem_mem h1')) rfl rfl (by simp) ?_
  rintro _ rfl
  simp only [go_sem]
  refine bG E' (fun h2=>?_) (fun h2=>?_)<;>simp only [go_sem]
  ·refine ⟨_,rfl,?_⟩
   have:l.any p=true:=List.any_eq_true.2 ⟨l[i],List.getElem_mem h1',h2⟩
   rw [this]
   exact decide_eq_true (Int.natCast_nonneg _)
  ·refine ⟨⟨i+1,by omega,nf h1' hab h2⟩,by show l.length-(i+1)<_;omega,?_⟩
   rw [aa ⟨by omega,by omega⟩];rfl
 ·have h3:i=l.length:=by omega
  subst h3
  rw [List.take_length] at hab
  refine ⟨_,rfl,?_⟩
  rw [hab]
  decide
theorem D0 {G} (l:List Int) (p:Int→Bool) (f:Nat) (caps:List D) (hl:l.length≤1000000) (hc:∀ x∈l,HP Tryz.prog G f (i64 x::caps) (fun r=>r=.d (.bool (p x)))) :
  HP Tryz.prog G 66 [ay l,.clo f caps] (fun r=>r=.d (.bool (l.any p))):=by
 refine aq Tryz.func66 rfl (by decide +kernel) (by simp [Tryz.ntmps66]) (veil fun E=>?_)
 simp only [go_sem]
 refine ae E (By l p f caps hl hc) rfl rfl (by simp) ?_
 rintro _ ⟨z,rfl,hz⟩
 simp only [go_sem]
 rw [hz]
def fnm (l:List Fld) (i:Nat):List UInt8:=(l.getD i ([],0)).1
def im (l:List Fld) (i:Nat):Bool:=decide (0<i) && !Op.bytesLess (fnm l (i-1)) (fnm l i)
theorem ed {l:List Fld} {i:Nat} (h:i<l.length):(l.map au).getD i .nilp=.agg [.str (fnm l i),i64 l[i].2]:=by simp [h,fnm,au]
end Go.Proofs.YthfodompfpdmgaaGreatDoor

namespace Go.Ab
structure EA where
 plus:Bool
 al:Bool
 int:Bool
 bool:Bool
 str:Bool
 arr:Bool
 rc:Bool
 tg:Bool
 vars:List Int
 dom:Int
 cod:Int
 fl:List (List UInt8 × Int)
 tl:List (List UInt8 × Int)
 deriving DecidableEq,Inhabited
def EA.next (s:EA):List Int:=(if s.arr then [s.dom,s.cod] else [])++(s.fl.map (·.2)++s.tl.map (·.2))
def EA.self (s:EA):(List Bool × List Int) × List (List UInt8) × List (List UInt8) :=
 (([s.plus,s.al,s.int,s.bool,s.str,s.arr,s.rc,s.tg],s.vars),s.fl.map (·.1),s.tl.map (·.1))
def EA.mv (f:Int→Int) (s:EA):EA :=
 { s with dom:=if s.arr then f s.dom else s.dom,cod:=if s.arr then f s.cod else s.cod,fl:=s.fl.map fun q=>(q.1,f q.2),tl:=s.tl.map fun q=>(q.1,f q.2) }
theorem qR (f:Int→Int) (s:EA):(s.mv f).self=s.self:=by
 simp [EA.mv,EA.self,List.map_map,Function.comp_def]
theorem lN (f:Int→Int) (s:EA):(s.mv f).next=s.next.map f:=by
 unfold EA.next EA.mv
 cases s.arr<;>simp [List.map_map,Function.comp_def]
theorem tb {a b:EA} (h:a.self=b.self):a.next.length=b.next.length:=by
 simp only [EA.self,Prod.mk.injEq,List.cons.injEq] at h
 have h1:=congrArg List.length h.2.1
 have h2:=congrArg List.length h.2.2
 simp only [List.length_map] at h1 h2
 unfold EA.next
 rw [h.1.1.2.2.2.2.2.1]
 split<;>simp [h1,h2]
def nxA (l:List EA) (i:Nat):List Nat:=(l.getD i default).next.map Int.toNat
def sfA (l:List EA) (i:Nat):=(l.getD i default).self
def EZ (l:List EA) (R:Nat→Nat→Prop):Prop:=∀ i j,R i j→sfA l i=sfA l j∧∀ (k a b:Nat),(nxA l i)[k]?=some a→(nxA l j)[k]?=some b→R a b
def alike (l:List EA) (i j:Nat):Prop:=∃ R,EZ l R∧R i j
theorem lH {l:List EA} {i j:Nat} (h:sfA l i=sfA l j):(nxA l i).length=(nxA l j).length:=by
 simp only [nxA,List.length_map];exact tb h
theorem alike_refl (l:List EA) (i:Nat):alike l i i:=⟨fun a b=>a=b,fun i j h=>by subst h;exact ⟨rfl,fun k a b h1 h2=>by rw [h1] at h2;exact Option.some.inj h2⟩,rfl⟩
theorem gw {l:List EA} {i j:Nat} (h:alike l i j):alike l j i:=by
 obtain ⟨R,hR,h⟩:=h
 exact ⟨fun a b=>R b a,fun a b h=>⟨(hR _ _ h).1.symm,fun k x y h1 h2=>(hR _ _ h).2 k y x h2 h1⟩,h⟩
theorem de {l:List EA} {i j k:Nat} (h:alike l i j) (h':alike l j k):alike l i k:=by
 obtain ⟨R,hR,h⟩:=h
 obtain ⟨S,hS,h'⟩:=h'
 refine ⟨fun a b=>∃ c,R a c∧S c b,?_,j,h,h'⟩
 rintro a b ⟨c,h1,h2⟩
 refine ⟨(hR _ _ h1).1.trans (hS _ _ h2).1,fun k x y hx hy=>?_⟩
 have hl:=lH (hR _ _ h1).1
 have hk:k<(nxA l c).length:=by rw [← hl];exact (List.getElem?_eq_some_iff.1 hx).1
 obtain ⟨z,hz⟩:∃ z,(nxA l c)[k]?=some z:=⟨_,List.getElem?_eq_getElem hk⟩
 exact ⟨z,(hR _ _ h1).2 k x z hx hz,(hS _ _ h2).2 k z y hz hy⟩
theorem cm (l:List EA):EZ l (alike l):=by
 rintro i j ⟨R,hR,h⟩
 exact ⟨(hR _ _ h).1,fun k a b h1 h2=>⟨R,hR,(hR _ _ h).2 k a b h1 h2⟩⟩
def cB (l:List EA) (out:List Nat):Prop:=out.length=l.length∧∀ i<l.length,alike l i (out.getD i 0)∧∀ j<out.getD i 0,¬ alike l i j
theorem fG {l:List EA} {a b:List Nat} (h:cB l a) (h':cB l b):a=b:=by
 apply List.ext_getElem (h.1.trans h'.1.symm)
 intro i h1 h2
 have hi:i<l.length:=h.1 ▸ h1
 obtain ⟨x,y⟩:=h.2 i hi
 obtain ⟨x',y'⟩:=h'.2 i hi
 rw [List.getD_eq_getElem?_getD,List.getElem?_eq_getElem h1,Option.getD_some] at x y
 rw [List.getD_eq_getElem?_getD,List.getElem?_eq_getElem h2,Option.getD_some] at x' y'
 rcases Nat.lt_trichotomy a[i] b[i] with h | h | h
 ·exact absurd x (y' _ h)
 ·exact h
 ·exact absurd x' (y _ h)
theorem dW {l:List EA} {a:List Nat} (h:cB l a) {i:Nat} (hi:i<l.length):a.getD i 0≤i:=by
 rcases Nat.lt_or_ge i (a.getD i 0) with h1 | h1
 ·exact absurd (alike_refl l i) ((h.2 i hi).2 i h1)
 ·exact h1
theorem oT {l:List EA} {a:List Nat} (h:cB l a) {i j:Nat} (hi:i<l.length) (hj:j<l.length):alike l i j↔a.getD i 0=a.getD j 0:=by
 constructor
 ·intro e
  rcases Nat.lt_trichotomy (a.getD i 0) (a.getD j 0) with g | g | g
  ·exact absurd (de (gw e) (h.2 i hi).1) ((h.2 j hj).2 _ g)
  ·exact g
  ·exact absurd (de e (h.2 j hj).1) ((h.2 i hi).2 _ g)
 ·intro e
  exact de (h.2 i hi).1 (de (by rw [e];exact alike_refl _ _) (gw (h.2 j hj).1))
end Go.Ab

namespace Go.Ab
def cA:List Nat→List Nat→List Nat
 | L,[]=>L
 | L,k::r=>cA (if k∈L then L else L++[k]) r
def eu (nx:Nat→List Nat):Nat→Nat→List Nat→List Nat
 | 0,_,L=>L
 | f+1,i,L=>match L[i]? with
   | none=>L
   | some x=>eu nx f (i+1) (cA L (nx x))
theorem fA:∀ (ks L:List Nat),∃ r,cA L ks=L++r∧∀ x∈r,x∈ks
 | [],L=>⟨[],by simp [cA],by simp⟩
 | k::ks,L=>by
   unfold cA
   obtain ⟨r,h,hr⟩:=fA ks (if k∈L then L else L++[k])
   rw [h]
   split
   ·exact ⟨r,rfl,fun x hx=>List.mem_cons_of_mem _ (hr x hx)⟩
   ·exact ⟨k::r,by simp,fun x hx=>by
     rcases List.mem_cons.1 hx with rfl | hx
     ·simp
     ·exact List.mem_cons_of_mem _ (hr x hx)⟩
theorem tv:∀ (ks L:List Nat),∀ x∈ks,x∈cA L ks
 | k::ks,L,x,hx=>by
   unfold cA
   rcases List.mem_cons.1 hx with rfl | hx
   ·obtain ⟨r,h,_⟩:=fA ks (if x∈L then L else L++[x])
    rw [h]
    split
    ·rename_i h;exact List.mem_append_left _ h
    ·simp
   ·exact tv ks _ x hx
theorem cZ:∀ (ks L:List Nat),L.Nodup→(cA L ks).Nodup
 | [],L,h=>h
 | k::ks,L,h=>by
   unfold cA
   apply cZ
   split
   ·exact h
   ·rename_i hk
    rw [List.nodup_append]
    exact ⟨h,by simp,fun a ha b hb e=>hk (by rw [List.mem_singleton.1 hb] at e;exact e ▸ ha)⟩
theorem rp {f:Nat→Nat} {S:Nat→Prop} (hf:∀ a b,S a→S b→f a=f b→a=b):∀ (ks L:List Nat),(∀ x∈L,S x)→(∀ x∈ks,S x)→cA (L.map f) (ks.map f)=(cA L ks).map f
 | [],L,_,_=>rfl
 | k::ks,L,hL,hk=>by
   simp only [List.map_cons,cA]
   have hm:f k∈L.map f↔k∈L:=by
    constructor
    ·intro h
     obtain ⟨x,hx,e⟩:=List.mem_map.1 h
     rw [← hf x k (hL x hx) (hk k (by simp)) e];exact hx
    ·exact fun h=>List.mem_map_of_mem h
   rw [show (if f k∈L.map f then L.map f else L.map f++[f k])=(if k∈L then L else L++[k]).map f from by
    by_cases h:k∈L
    ·rw [if_pos h,if_pos (hm.2 h)]
    ·rw [if_neg h,if_neg (fun g=>h (hm.1 g))];simp]
   refine rp hf ks _ ?_ fun x hx=>hk x (List.mem_cons_of_mem _ hx)
   intro x hx
   split at hx
   ·exact hL x hx
   ·rcases List.mem_append.1 hx with hx | hx
    ·exact hL x hx
    ·rw [List.mem_singleton.1 hx];exact hk k (by simp)
section
variable {nx:Nat→List Nat}
theorem mE:∀ (f i:Nat) (L:List Nat),∃ r,eu nx f i L=L++r
 | 0,_,L=>⟨[],by simp [eu]⟩
 | f+1,i,L=>by
   unfold eu
   split
   ·exact ⟨[],by simp⟩
   ·obtain ⟨r,h⟩:=mE f (i+1) (cA L (nx ‹_›))
    obtain ⟨r',h',_⟩:=fA (nx ‹_›) L
    exact ⟨r'++r,by rw [h,h',List.append_assoc]⟩
theorem mR:∀ (f i:Nat) (L:List Nat),L.Nodup→(eu nx f i L).Nodup
 | 0,_,L,h=>h
 | f+1,i,L,h=>by
   unfold eu
   split
   ·exact h
   ·exact mR f _ _ (cZ _ _ h)
theorem j8 {S:Nat→Prop} {L ks:List Nat} (hL:∀ x∈L,S x) (hk:∀ x∈ks,S x):∀ x∈cA L ks,S x:=by
 obtain ⟨r,h,hr⟩:=fA ks L
 rw [h]
 intro x hx
 rcases List.mem_append.1 hx with hx | hx
 ·exact hL x hx
 ·exact hk x (hr x hx)
theorem tY {S:Nat→Prop} (hS:∀ x,S x→∀ y∈nx x,S y):∀ (f i:Nat) (L:List Nat),(∀ x∈L,S x)→∀ x∈eu nx f i L,S x
 | 0,_,L,h=>h
 | f+1,i,L,h=>by
   unfold eu
   split
   ·exact h
   ·rename_i x hx
    exact tY hS f _ _ (j8 h (hS x (h x (List.mem_of_getElem? hx))))
theorem aH:∀ {n:Nat} {L:List Nat},L.Nodup→(∀ x∈L,x<n)→L.length≤n
 | 0,L,_,hn=>by
   cases L with
   | nil=>simp
   | cons a r=>exact absurd (hn a (by simp)) (Nat.not_lt_zero _)
 | n+1,L,h,hn=>by
   have h1:=aH (n:=n) (L:=L.erase n) (h.erase n) (fun x hx=>by
    rw [h.mem_erase_iff] at hx
    have:=hn x hx.2
    have:=hx.1
    omega)
   have:=List.length_erase (a:=n) (l:=L)
   split at this<;>omega
theorem oV {n:Nat} (hS:∀ x,x<n→∀ y∈nx x,y<n):∀ (f i:Nat) (L:List Nat),L.Nodup→(∀ x∈L,x<n)→n≤f+i→∀ g,eu nx (f+g) i L=eu nx f i L
 | 0,i,L,hd,hn,hf,g=>by
   cases g with
   | zero=>rfl
   | succ g =>
     have:L[i]?=none:=by
      rw [List.getElem?_eq_none_iff]
      have:=aH hd hn
      omega
     rw [Nat.zero_add]
     simp [eu,this]
 | f+1,i,L,hd,hn,hf,g=>by
   rw [Nat.add_right_comm]
   unfold eu
   split
   ·rfl
   ·rename_i x hx
    exact oV hS f (i+1) _ (cZ _ _ hd) (j8 hn (hS x (hn x (List.mem_of_getElem? hx)))) (by omega) g
theorem kK {n:Nat} (hS:∀ x,x<n→∀ y∈nx x,y<n):∀ (f i:Nat) (L:List Nat),L.Nodup→(∀ x∈L,x<n)→n≤f+i→(∀ j<i,∀ x,L[j]?=some x→∀ y∈nx x,y∈L) →
  ∀ x∈eu nx f i L,∀ y∈nx x,y∈eu nx f i L
 | 0,i,L,hd,hn,hf,hc=>by
   intro x hx y hy
   obtain ⟨j,hj,rfl⟩:=List.getElem_of_mem hx
   have:=aH hd hn
   have hj':j<L.length:=hj
   exact hc j (by omega) _ (List.getElem?_eq_getElem hj') y hy
 | f+1,i,L,hd,hn,hf,hc=>by
   unfold eu
   split
   ·rename_i h
    rw [List.getElem?_eq_none_iff] at h
    intro x hx y hy
    obtain ⟨j,hj,rfl⟩:=List.getElem_of_mem hx
    exact hc j (by omega) _ (List.getElem?_eq_getElem hj) y hy
   ·rename_i x hx
    refine kK hS f (i+1) _ (cZ _ _ hd) (j8 hn (hS x (hn x (List.mem_of_getElem? hx)))) (by omega) ?_
    intro j hj z hz y hy
    obtain ⟨r,h,_⟩:=fA (nx x) L
    have hi:=(List.getElem?_eq_some_iff.1 hx).1
    rw [h,List.getElem?_append_left (by omega)] at hz
    by_cases e:j=i
    ·subst e
     rw [hx] at hz;cases hz
     exact tv _ _ _ hy
    ·rw [h]
     exact List.mem_append_left _ (hc j (by omega) z hz y hy)
theorem ra {nx':Nat→List Nat} {f:Nat→Nat} {S:Nat→Prop} (hf:∀ a b,S a→S b→f a=f b→a=b) (hS:∀ x,S x→∀ y∈nx x,S y) (hn:∀ x,S x→nx' (f x)=(nx x).map f) :
  ∀ (g i:Nat) (L:List Nat),(∀ x∈L,S x)→eu nx' g i (L.map f)=(eu nx g i L).map f
 | 0,_,L,_=>rfl
 | g+1,i,L,h=>by
   unfold eu
   rw [List.getElem?_map]
   cases hx:L[i]? with
   | none=>rfl
   | some x =>
     have hx':=h x (List.mem_of_getElem? hx)
     simp only [Option.map_some]
     rw [hn x hx',rp hf _ _ h (hS x hx')]
     exact ra hf hS hn g _ _ (j8 h (hS x hx'))
end
def aU (l:List EA) (start:Nat):List Nat:=eu (nxA l) l.length 0 [start]
def fI (ord:List Nat) (k:Nat):Int:=if k∈ord then (ord.idxOf k:Int) else 0
def aG (l:List EA) (start:Nat):List EA:=(aU l start).map fun i=>(l.getD i default).mv fun z=>fI (aU l start) z.toNat
def InA (l:List EA):Prop:=∀ s∈l,∀ z∈s.next,0≤z∧z<l.length
theorem cC {l:List EA} {i:Nat} (h:i<l.length):l.getD i default∈l:=by
 rw [List.getD_eq_getElem?_getD,List.getElem?_eq_getElem h,Option.getD_some];exact List.getElem_mem h
theorem gx {l:List EA} (h:InA l):∀ x,x<l.length→∀ y∈nxA l x,y<l.length:=by
 intro x hx y hy
 obtain ⟨z,hz,rfl⟩:=List.mem_map.1 hy
 have:=h _ (cC hx) z hz
 omega
section
variable {l:List EA} {start:Nat}
theorem eC (h:InA l) (hs:start<l.length):∀ x∈aU l start,x<l.length:=tY (gx h) _ _ _ (by simpa using hs)
theorem bK:(aU l start).Nodup:=mR _ _ _ (by simp)
theorem fj (h:InA l) (hs:start<l.length):∀ x∈aU l start,∀ y∈nxA l x,y∈aU l start :=
 kK (gx h) _ _ _ (by simp) (by simpa using hs) (by omega) (by omega)
theorem dI:∃ r,aU l start=start::r:=by
 obtain ⟨r,h⟩:=mE (nx:=nxA l) l.length 0 [start]
 exact ⟨r,h⟩
theorem dp (h:InA l) (hs:start<l.length):(aU l start).length≤l.length:=aH bK (eC h hs)
theorem aA:(aG l start).length=(aU l start).length:=by simp [aG]
theorem dX {ord:List Nat} (hd:ord.Nodup) {j:Nat} (hj:j<ord.length):fI ord ord[j]=j:=by
 unfold fI
 rw [if_pos (List.getElem_mem hj),hd.idxOf_getElem]
theorem p7 {ord:List Nat} (h0:0<ord.length) (k:Nat):0≤fI ord k∧fI ord k<ord.length:=by
 unfold fI
 split
 ·rename_i h
  have:=List.idxOf_lt_length_of_mem h
  omega
 ·omega
theorem Aa {ord:List Nat} {a b:Nat} (ha:a∈ord) (hb:b∈ord) (h:fI ord a=fI ord b):a=b:=by
 unfold fI at h
 rw [if_pos ha,if_pos hb] at h
 have h:ord.idxOf a=ord.idxOf b:=by omega
 have h1:=List.getElem_idxOf (List.idxOf_lt_length_of_mem ha)
 have h2:=List.getElem_idxOf (List.idxOf_lt_length_of_mem hb)
 rw [← h1,← h2]
 simp only [h]
theorem nh (j:Nat) (hj:j<(aU l start).length):nxA (aG l start) j=(nxA l (aU l start)[j]).map fun y=>(fI (aU l start) y).toNat:=by
 unfold nxA aG
 rw [List.getD_eq_getElem?_getD,List.getElem?_map,List.getElem?_eq_getElem hj]
 simp only [Option.map_some,Option.getD_some]
 rw [lN,List.map_map,List.map_map]
 rfl
theorem mQ (j:Nat) (hj:j<(aU l start).length):sfA (aG l start) j=sfA l (aU l start)[j]:=by
 unfold sfA aG
 rw [List.getD_eq_getElem?_getD,List.getElem?_map,List.getElem?_eq_getElem hj]
 simp only [Option.map_some,Option.getD_some]
 rw [qR]
theorem jC (_h:InA l) (_hs:start<l.length):InA (aG l start):=by
 intro s hs z hz
 obtain ⟨i,hi,rfl⟩:=List.mem_map.1 hs
 rw [lN] at hz
 obtain ⟨y,hy,rfl⟩:=List.mem_map.1 hz
 rw [aA]
 obtain ⟨r,e⟩:=dI (l:=l) (start:=start)
 exact p7 (by rw [e];simp) _
theorem wx (h:InA l) (hs:start<l.length):aU (aG l start) 0=List.range (aU l start).length:=by
 have h0:0<(aU l start).length:=by
  obtain ⟨r,e⟩:=dI (l:=l) (start:=start)
  rw [e];simp
 have hlen:=dp h hs
 have hi:=jC h hs
 have key:eu (nxA (aG l start)) l.length 0 ([start].map fun y=>(fI (aU l start) y).toNat)=(eu (nxA l) l.length 0 [start]).map fun y=>(fI (aU l start) y).toNat:=by
  refine ra (S:=fun x=>x∈aU l start) (fun a b ha hb e=>Aa ha hb ?_) (fj h hs) (fun x hx=>?_) _ _ _ ?_
  ·have:=p7 h0 a
   have:=p7 h0 b
   omega
  ·obtain ⟨j,hj,rfl⟩:=List.getElem_of_mem hx
   rw [dX bK hj,Int.toNat_natCast,nh j hj]
  ·obtain ⟨r,e⟩:=dI (l:=l) (start:=start)
   simp [e]
 have hst:(fI (aU l start) start).toNat=0:=by
  obtain ⟨r,e⟩:=dI (l:=l) (start:=start)
  have:=dX (bK (l:=l) (start:=start)) h0
  simp only [e,List.getElem_cons_zero] at this
  rw [e]
  omega
 simp only [List.map_cons,List.map_nil,hst] at key
 unfold aU
 have hm:=oV (gx hi) (aG l start).length 0 [0] (by simp) (by simpa [aA] using h0) (by omega) (l.length-(aG l start).length)
 rw [aA,show (aU l start).length+(l.length-(aU l start).length)=l.length from by omega] at hm
 rw [aA,← hm,key]
 apply List.ext_getElem
 ·simp [aU]
 ·intro j h1 h2
  simp only [List.getElem_map,List.getElem_range]
  have hj:j<(aU l start).length:=by simpa [aU] using h2
  have:=dX (bK (l:=l) (start:=start)) hj
  show (fI (aU l start) (aU l start)[j]).toNat=j
  rw [this];simp
theorem tT {n k:Nat} (h:k<n):fI (List.range n) k=k:=by
 have:=dX (ord:=List.range n) List.nodup_range (j:=k) (by simpa using h)
 simpa using this
theorem CQ {f:Int→Int} {s:EA} (h:∀ z∈s.next,f z=z):s.mv f=s:=by
 unfold EA.next at h
 unfold EA.mv
 have e:∀ l:List (List UInt8 × Int),(∀ z∈l.map (·.2),f z=z)→l.map (fun q=>(q.1,f q.2))=l:=by
  intro l hl
  conv=>rhs;rw [← List.map_id l]
  refine List.map_congr_left fun q hq=>?_
  have:=hl q.2 (List.mem_map_of_mem hq)
  simp [this]
 rw [e s.fl fun z hz=>h z (List.mem_append_right _ (List.mem_append_left _ hz)),e s.tl fun z hz=>h z (List.mem_append_right _ (List.mem_append_right _ hz))]
 cases ha:s.arr with
 | false=>cases s;simp_all
 | true =>
   have h1:=h s.dom (by simp [ha])
   have h2:=h s.cod (by simp [ha])
   cases s
   simp_all
theorem sP (h:InA l) (hs:start<l.length):aG (aG l start) 0=aG l start:=by
 have hi:=jC h hs
 have ho:=wx h hs
 rw [aG,ho]
 apply List.ext_getElem
 ·simp [aA]
 ·intro j h1 h2
  simp only [List.getElem_map,List.getElem_range]
  have hg:(aG l start).getD j default=(aG l start)[j]:=by
   rw [List.getD_eq_getElem?_getD,List.getElem?_eq_getElem h2,Option.getD_some]
  rw [hg]
  refine CQ fun z hz=>?_
  have:=hi _ (List.getElem_mem h2) z hz
  rw [aA] at this
  rw [tT (by omega)]
  omega
end
end Go.Ab

namespace Go.Ab
section
variable {l:List EA} {start:Nat} {cls:List Nat}
def bY (cls:List Nat) (l:List EA):List EA:=l.map fun s=>s.mv fun z=>((cls.getD z.toNat 0:Nat):Int)
theorem qL (i:Nat) (hi:i<l.length):nxA (bY cls l) i=(nxA l i).map fun y=>cls.getD y 0:=by
 unfold nxA bY
 rw [List.getD_eq_getElem?_getD,List.getD_eq_getElem?_getD,List.getElem?_map,List.getElem?_eq_getElem hi]
 simp only [Option.map_some,Option.getD_some]
 rw [lN,List.map_map,List.map_map]
 refine List.map_congr_left fun y _=>?_
 simp
theorem qw (i:Nat) (hi:i<l.length):sfA (bY cls l) i=sfA l i:=by
 unfold sfA bY
 rw [List.getD_eq_getElem?_getD,List.getD_eq_getElem?_getD,List.getElem?_map,List.getElem?_eq_getElem hi]
 simp only [Option.map_some,Option.getD_some]
 rw [qR]
theorem fV (h:InA l) (hc:cB l cls):InA (bY cls l):=by
 intro s hs z hz
 obtain ⟨t,ht,rfl⟩:=List.mem_map.1 hs
 rw [lN] at hz
 obtain ⟨y,hy,rfl⟩:=List.mem_map.1 hz
 have h1:=h t ht y hy
 have h2:=dW hc (i:=y.toNat) (by omega)
 simp only [bY,List.length_map]
 omega
theorem wM (h:InA l) (hc:cB l cls) {i j:Nat} (hi:i<l.length) (hj:j<l.length) (ha:alike (bY cls l) i j):alike l i j:=by
 have hin:=gx h
 have hk:∀ x,x<l.length→cls.getD x 0<l.length∧alike l x (cls.getD x 0):=fun x hx=>by
  have:=dW hc hx
  exact ⟨by omega,(hc.2 x hx).1⟩
 refine ⟨fun a b=>∃ c d,a<l.length∧b<l.length∧c<l.length∧d<l.length∧alike l a c∧alike (bY cls l) c d∧alike l d b,?_,i,j,hi,hj,hi,hj,alike_refl _ _,ha,alike_refl _ _⟩
 rintro a b ⟨c,d,ha,hb,hcl,hdl,h1,h2,h3⟩
 obtain ⟨e1,g1⟩:=cm l _ _ h1
 obtain ⟨e2,g2⟩:=cm _ _ _ h2
 obtain ⟨e3,g3⟩:=cm l _ _ h3
 rw [qw _ hcl,qw _ hdl] at e2
 refine ⟨e1.trans (e2.trans e3),fun k x y hx hy=>?_⟩
 have l1:=lH e1
 have l2:=lH e2
 have l3:=lH e3
 have kx:=(List.getElem?_eq_some_iff.1 hx).1
 obtain ⟨x',hx'⟩:∃ z,(nxA l c)[k]?=some z:=⟨_,List.getElem?_eq_getElem (by omega)⟩
 obtain ⟨y',hy'⟩:∃ z,(nxA l d)[k]?=some z:=⟨_,List.getElem?_eq_getElem (by omega)⟩
 have q1:=g1 k x x' hx hx'
 have q3:=g3 k y' y hy' hy
 have q2:=g2 k (cls.getD x' 0) (cls.getD y' 0) (by rw [qL _ hcl,List.getElem?_map,hx'];rfl) (by rw [qL _ hdl,List.getElem?_map,hy'];rfl)
 have m1:=hin a ha x (List.mem_of_getElem? hx)
 have m2:=hin b hb y (List.mem_of_getElem? hy)
 have m3:=hin c hcl x' (List.mem_of_getElem? hx')
 have m4:=hin d hdl y' (List.mem_of_getElem? hy')
 exact ⟨_,_,m1,m2,(hk x' m3).1,(hk y' m4).1,de q1 (hk x' m3).2,q2,de (gw (hk y' m4).2) q3⟩
theorem uF (h:InA l) (hs:start<l.length) {p q:Nat} (hp:p<(aU l start).length) (hq:q<(aU l start).length) (ha:alike (aG l start) p q):alike l (aU l start)[p] (aU l start)[q]:=by
 refine ⟨fun a b=>∃ (p q:Nat) (hp:p<(aU l start).length) (hq:q<(aU l start).length),a=(aU l start)[p]∧b=(aU l start)[q]∧alike (aG l start) p q,?_,p,q,hp,hq,rfl,rfl,ha⟩
 rintro _ _ ⟨p,q,hp,hq,rfl,rfl,ha⟩
 obtain ⟨e,g⟩:=cm _ _ _ ha
 rw [mQ _ hp,mQ _ hq] at e
 refine ⟨e,fun k x y hx hy=>?_⟩
 have hx1:=fj h hs _ (List.getElem_mem hp) x (List.mem_of_getElem? hx)
 have hy1:=fj h hs _ (List.getElem_mem hq) y (List.mem_of_getElem? hy)
 obtain ⟨i,hi,rfl⟩:=List.getElem_of_mem hx1
 obtain ⟨j,hj,rfl⟩:=List.getElem_of_mem hy1
 refine ⟨i,j,hi,hj,rfl,rfl,?_⟩
 have:=g k i j (by rw [nh _ hp,List.getElem?_map,hx];simp [dX bK hi]) (by rw [nh _ hq,List.getElem?_map,hy];simp [dX bK hj])
 exact this
def aF (l:List EA) (cls:List Nat):List EA:=aG (bY cls l) (cls.getD 0 0)
theorem rX (h:InA l) (hc:cB l cls) (h0:0<l.length) {p q:Nat} (hp:p<(aF l cls).length) (hq:q<(aF l cls).length) (ha:alike (aF l cls) p q):p=q:=by
 have e0:cls.getD 0 0=0:=by have:=dW hc h0;omega
 unfold aF at hp hq ha
 rw [e0] at hp hq ha
 rw [aA] at hp hq
 have hin:=fV h hc
 have hs:0<(bY cls l).length:=by simpa [bY] using h0
 have a1:=uF hin hs hp hq ha
 have b1:=eC hin hs _ (List.getElem_mem hp)
 have b2:=eC hin hs _ (List.getElem_mem hq)
 rw [show (bY cls l).length=l.length from by simp [bY]] at b1 b2
 have a2:=(oT hc b1 b2).1 (wM h hc b1 b2 a1)
 have rep:∀ x∈aU (bY cls l) 0,x<l.length∧cls.getD x 0=x:=by
  refine tY (S:=fun x=>x<l.length∧cls.getD x 0=x) ?_ _ _ _ (fun x hx=>by rw [List.mem_singleton.1 hx];exact ⟨h0,e0⟩)
  rintro x ⟨hx,_⟩ y hy
  rw [qL _ hx] at hy
  obtain ⟨z,hz,rfl⟩:=List.mem_map.1 hy
  have hz:=gx h x hx z hz
  have:=dW hc hz
  refine ⟨by omega,?_⟩
  exact ((oT hc hz (by omega)).1 (hc.2 z hz).1).symm
 rw [(rep _ (List.getElem_mem hp)).2,(rep _ (List.getElem_mem hq)).2] at a2
 exact (List.getElem_inj bK).1 a2
theorem wv (hd:∀ p q,p<l.length→q<l.length→alike l p q→p=q):cB l (List.range l.length):=by
 refine ⟨by simp,fun i hi=>?_⟩
 rw [List.getD_eq_getElem?_getD,List.getElem?_range hi,Option.getD_some]
 exact ⟨alike_refl _ _,fun j hj ha=>by have:=hd i j hi (by omega) ha;omega⟩
theorem wb (h:InA l) (hc:cB l cls) (h0:0<l.length):InA (aF l cls):=by
 have e0:cls.getD 0 0=0:=by have:=dW hc h0;omega
 unfold aF
 rw [e0]
 exact jC (fV h hc) (by simpa [bY] using h0)
theorem kB (h:InA l) (hc:cB l cls) (h0:0<l.length):0<(aF l cls).length∧(aF l cls).length≤l.length:=by
 have e0:cls.getD 0 0=0:=by have:=dW hc h0;omega
 unfold aF
 rw [e0,aA]
 have:=dp (fV h hc) (start:=0) (by simpa [bY] using h0)
 obtain ⟨r,e⟩:=dI (l:=bY cls l) (start:=0)
 refine ⟨by rw [e];simp,by simpa [bY] using this⟩
theorem ji (h:InA l) (hc:cB l cls) (h0:0<l.length):aG (aF l cls) 0=aF l cls:=by
 have e0:cls.getD 0 0=0:=by have:=dW hc h0;omega
 unfold aF
 rw [e0]
 exact sP (fV h hc) (by simpa [bY] using h0)
theorem rl (h:InA l) (hc:cB l cls) (h0:0<l.length):aF (aG (aF l cls) 0) (List.range (aF l cls).length)=aF l cls:=by
 rw [ji h hc h0]
 have hl:=kB h hc h0
 have hin:=wb h hc h0
 have e:bY (List.range (aF l cls).length) (aF l cls)=aF l cls:=by
  unfold bY
  conv=>rhs;rw [← List.map_id (aF l cls)]
  refine List.map_congr_left fun s hs=>CQ fun z hz=>?_
  have:=hin s hs z hz
  rw [List.getD_eq_getElem?_getD,List.getElem?_range (by omega),Option.getD_some]
  omega
 have g:aF (aF l cls) (List.range (aF l cls).length)=aG (bY (List.range (aF l cls).length) (aF l cls)) ((List.range (aF l cls).length).getD 0 0):=rfl
 rw [g,e,show (List.range (aF l cls).length).getD 0 0=0 from by rw [List.getD_eq_getElem?_getD,List.getElem?_range hl.1,Option.getD_some]]
 exact ji h hc h0
end
section
variable {l:List EA}
theorem wQ {N:Nat→Nat→Bool} (h1:∀ i j,i<l.length→j<l.length→N i j=true→¬ alike l i j) (hin:InA l)
  (h2:∀ i j,i<l.length→j<l.length→N i j=false→sfA l i=sfA l j∧∀ (k a b:Nat),(nxA l i)[k]?=some a→(nxA l j)[k]?=some b→N a b=false) {i j:Nat} (hi:i<l.length) (hj:j<l.length):alike l i j↔N i j=false:=by
 constructor
 ·intro h
  cases hn:N i j with
  | false=>rfl
  | true=>exact absurd h (h1 i j hi hj hn)
 ·intro h
  refine ⟨fun a b=>a<l.length∧b<l.length∧N a b=false,?_,hi,hj,h⟩
  rintro a b ⟨ha,hb,hab⟩
  obtain ⟨e,g⟩:=h2 a b ha hb hab
  exact ⟨e,fun k x y hx hy=>⟨gx hin a ha x (List.mem_of_getElem? hx),gx hin b hb y (List.mem_of_getElem? hy),g k x y hx hy⟩⟩
end
end Go.Ab

namespace Go.Ab
mutual
def D.flat:D→Bool
 | .int _ _=>true
 | .bool _=>true
 | .str _=>true
 | .nilp=>true
 | .nils=>true
 | .nilm=>true
 | .nilf=>true
 | .nili=>true
 | .unk=>true
 | .sl _ xs=>xs.isEmpty
 | .slx _ _=>false
 | .agg cs=>jW cs
 | .ptr _=>false
 | .clo _ cs=>jW cs
 | .ifc _ d=>d.flat
 | .mpd _ _ _ _=>false
 | .yl _=>true
def jW:List D→Bool
 | []=>true
 | d::r=>d.flat && jW r
end
mutual
def AV.flat:AV→Bool
 | .un=>true
 | .d x=>x.flat
 | .vw _ _ _=>true
 | .bx _ _=>true
 | .el _ _ _=>true
 | .mp _=>true
 | .it _=>true
 | .agg cs=>fW cs
 | .tup cs=>fW cs
 | .clo _ cs=>fW cs
 | .va _ _ _=>true
 | .ea _ _=>true
 | .ma _=>true
def fW:List AV→Bool
 | []=>true
 | x::r=>x.flat && fW r
end
def rr:List (D × D)→Bool
 | []=>true
 | x::r=>x.1.flat && x.2.flat && rr r
def Ob.flat:Ob→Bool
 | .arrT _ _ xs=>jW xs
 | .boxT _ cs=>fW cs
 | .map es=>rr es
 | .siter _ _=>true
 | .miter _ _ _=>false
 | .arrA xs=>fW xs
 | .mapA _ _ _=>false
def pf:List (Name × Ob)→Bool
 | []=>true
 | x::r=>x.2.flat && pf r
theorem fD:∀ {l:List D},jW l=true→∀ (i:Nat) d,l[i]?=some d→d.flat=true
 | [],_,i,d,h=>by simp at h
 | x::r,hf,i,d,h=>by
   simp only [jW,Bool.and_eq_true] at hf
   cases i with
   | zero=>cases h;exact hf.1
   | succ i=>exact fD hf.2 i d (by simpa using h)
theorem dE:∀ {l:List AV},fW l=true→∀ (i:Nat) x,l[i]?=some x→x.flat=true
 | [],_,i,d,h=>by simp at h
 | x::r,hf,i,d,h=>by
   simp only [fW,Bool.and_eq_true] at hf
   cases i with
   | zero=>cases h;exact hf.1
   | succ i=>exact dE hf.2 i d (by simpa using h)
theorem oQ:∀ {l:List (D × D)},rr l=true→∀ (i:Nat) x,l[i]?=some x→x.1.flat=true∧x.2.flat=true
 | [],_,i,d,h=>by simp at h
 | x::r,hf,i,d,h=>by
   simp only [rr,Bool.and_eq_true] at hf
   cases i with
   | zero=>cases h;exact hf.1
   | succ i=>exact oQ hf.2 i d (by simpa using h)
theorem pD:∀ {l:List (Name × Ob)},pf l=true→∀ q∈l,q.2.flat=true
 | [],_,q,h=>by simp at h
 | x::r,hf,q,h=>by
   simp only [pf,Bool.and_eq_true] at hf
   rcases List.mem_cons.1 h with rfl | h
   ·exact hf.1
   ·exact pD hf.2 q h
theorem Rep.reown {H H':Array Obj} {own own':Nat→Prop} {v:Value} {d:D} (h:Rep H own v d):d.flat=true→Rep H' own' v d:=by
 induction h with
 | int k n=>exact fun _=>.int k n
 | bool b=>exact fun _=>.bool b
 | str l=>exact fun _=>.str l
 | nilp=>exact fun _=>.nilp
 | nils=>exact fun _=>.nils
 | nilm=>exact fun _=>.nilm
 | nilf=>exact fun _=>.nilf
 | nili=>exact fun _=>.nili
 | unk v h=>exact fun _=>.unk v h
 | yl l=>exact fun _=>.yl l
 | agg vs cs hs hc _ ih=>exact fun hf=>.agg vs cs hs hc fun i d hi=>ih i d hi (fD hf i d hi)
 | sl0 a cap w=>exact fun _=>.sl0 a cap w
 | sl b o cap c e fz w xs hb hn hcap hz hw _ ih =>
   intro hf
   have:xs=[]:=by simpa [D.flat] using hf
   subst this
   exact .sl0 _ _ _
 | slx v w xs _ hc ih=>intro hf;cases hf
 | ptr b o c e fz d hb hn hz hsc _ ih=>intro hf;cases hf
 | clo f vs cs hs _ ih=>exact fun hf=>.clo f vs cs hs fun i d hi=>ih i d hi (fD hf i d hi)
 | ifc t v d _ ih=>exact fun hf=>.ifc t v d (ih hf)
 | mpd b clk ents bs ks vs hb hn hs hbs _ _ ih1 ih2=>intro hf;cases hf
section
variable {H:Array Obj} {own own':Nat→Prop} {used:List Nat} {hp:Name→Option Ob} {β:Name→Option Blk}
theorem VR.reown {v:Value} {x:AV} (h:VR H own used hp β v x):x.flat=true→VR H own' used hp β v x:=by
 induction h with
 | un v=>exact fun _=>.un v
 | d v x h=>exact fun hf=>.d v x (h.reown hf)
 | vw v p off len hu h1 h=>exact fun _=>.vw v p off len hu h1 h
 | bx v p c hu h1 h=>exact fun _=>.bx v p c hu h1 h
 | el v p i c hu h1 h=>exact fun _=>.el v p i c hu h1 h
 | mp v p hu h1 h=>exact fun _=>.mp v p hu h1 h
 | its v p hu h1 h h'=>exact fun _=>.its v p hu h1 h h'
 | va v p off len hu h1 h=>exact fun _=>.va v p off len hu h1 h
 | ea v p i hu h1 h=>exact fun _=>.ea v p i hu h1 h
 | ma v p hu h1 h=>exact fun _=>.ma v p hu h1 h
 | agg vs cs hs hc _ ih=>exact fun hf=>.agg vs cs hs hc fun i x hi=>ih i x hi (dE hf i x hi)
 | tup vs cs hs _ ih=>exact fun hf=>.tup vs cs hs fun i x hi=>ih i x hi (dE hf i x hi)
 | clo f vs cs hs _ ih=>exact fun hf=>.clo f vs cs hs fun i x hi=>ih i x hi (dE hf i x hi)
theorem tE {d:D} (h:d.flat=true):jW d.cells=true:=by
 cases d<;>first | exact h | (simp only [D.cells,jW,Bool.and_true];exact h)
theorem OR.reown {p:Name} {o:Ob} (h:OR H own used hp β p o) (hf:o.flat=true):OR H own' used hp β p o:=by
 cases o with
 | arrT ty w xs =>
   rcases h with h | ⟨k,c,e,hk,hc,hz,hl,hw,h⟩
   ·exact .inl h
   ·exact .inr ⟨k,c,e,hk,hc,hz,hl,hw,fun i x j d hi hj=>(h i x j d hi hj).reown (fD (tE (fD hf i x hi)) j d hj)⟩
 | boxT ty cs =>
   obtain ⟨k,c,e,hk,ho,hc,hz,hl,h1,h⟩:=h
   exact ⟨k,c,e,hk,ho,hc,hz,hl,h1,fun j x hj=>(h j x hj).reown (dE hf j x hj)⟩
 | map es =>
   obtain ⟨k,ents,clock,hk,hc,hz,h⟩:=h
   refine ⟨k,ents,clock,hk,hc,hz,fun i x hi=>?_⟩
   obtain ⟨en,h1,h2,h3⟩:=h i x hi
   obtain ⟨g1,g2⟩:=oQ hf i x hi
   exact ⟨en,h1,h2.reown g1,h3.reown g2⟩
 | siter s pos=>exact h
 | miter _ _ _=>cases hf
 | mapA _ _ _=>cases hf
 | arrA xs =>
   rcases h with h | ⟨k,c,e,hk,hc,hz,hl,hw,h⟩
   ·exact .inl h
   ·exact .inr ⟨k,c,e,hk,hc,hz,hl,hw,fun i x hi=>(h i x hi).reown (dE hf i x hi)⟩
end
theorem Sim.reown {n:Nat} {io:Os × Array (Nat × ByteArray)} {G:List (Nat × Obj)} {H0:Array Obj} {O0 A A2:Nat→Prop} {U0:List Nat} {β0:Name→Option Blk} {hA:∀ b,A b→b<H0.size} {hA2:∀ b,A2 b→b<H0.size} {hG:∀ q∈G,H0[q.1]?=some q.2∧¬ O0 q.1}
  {β:Name→Option Blk} {fr:List (Nat × AV)} {hp:List (Name × Ob)} {u:List Nat} {tm:Array Value} {w:World}
  (h:Sim ⟨n,io,G,H0,O0,A,U0,β0,hA,hG⟩ β (Go.Ab.mk fr hp u) tm w) (hO:∀ b,A2 b→¬ O0 b) (hf:∀ t,(lkA AV.un fr t).flat=true) (hh:pf hp=true):Sim ⟨n,io,G,H0,O0,A2,U0,β0,hA2,hG⟩ β (Go.Ab.mk fr hp u) tm w:=by
 refine { tms:=h.tms,io:=h.io,size:=h.size,frame:=h.frame,slots:=fun t=>(h.slots t).reown (hf t),objs:=fun p o ho=>?_,blocks:=fun p k hp hk=>?_,inj:=h.inj,us:=h.us,stay:=h.stay }
 ·obtain ⟨h1,h2⟩:=h.objs p o ho
  exact ⟨h1,h2.reown (pD hh _ (fT ho))⟩
 ·obtain ⟨h1,_,h3⟩:=h.blocks p k hp hk
  refine ⟨h1,fun ha=>?_,h3⟩
  rcases h3 with h3 | h3
  ·exact absurd (hA2 _ ha) (Nat.not_lt.2 h3)
  ·exact hO _ ha h3
def St.dG (s:St) (L:List (Name × W × List D)):St:=L.foldl (fun s q=>s.frz q.1 q.2.1 q.2.2) s
theorem zA (s:St):s.dG []=s:=rfl
theorem xB (s:St) (q:Name × W × List D) (L):s.dG (q::L)=(s.frz q.1 q.2.1 q.2.2).dG L:=rfl
theorem vC:∀ (L:List (Name × W × List D)) (s:St) (p:Name) (o:Ob),(s.dG L).hp p=some o→s.hp p=some o
 | [],_,_,_,h=>h
 | q::L,s,p,o,h=>by
   have:=vC L _ p o h
   have h2:aj s.hp q.1 none p=some o:=this
   unfold aj at h2
   split at h2
   ·cases h2
   ·exact h2
theorem sW {B:Base} {β:Name→Option Blk} {tm:Array Value} {w:World}:∀ (L:List (Name × W × List D)) (s:St),Sim B β s tm w→Lok s L→Sim B β (s.dG L) tm w
 | [],_,h,_=>h
 | _::L,_,h,hl=>sW L _ (h.frz hl.1) hl.2
theorem wj {P:Program} {B:Base} {β:Name→Option Blk} {s s':St} {tm tm':Array Value} {w:World} (h:Sim B β s tm w) (h':Sim B β s' tm' w) (hsub:∀ p o,s'.hp p=some o→s.hp p=some o) {f:FuncId} {cargs:List AV} {chp:List (Name × Ob)} {cu:List Nat} {Q0:AV→List (Name × Ob)→Prop} {σ:Name→Name} {d:Nat} (hd:d ∉ s.used)
  (hpass:gP σ cu s' chp) (hinj:gJ σ chp) (hcu:bI cu cargs=true) {vs:Array Value} (hvs:vs.size=cargs.length) (hv:∀ (i:Nat) x,cargs[i]?=some x→VR w.heap (s'.own B.A β) s'.used s'.hp β (vs.getD i undef) (x.ren σ)) (hc:HCall P B.G f cargs chp cu Q0)
  (hflat:∀ r hp',Q0 r hp'→r.flat=true∧pf hp'=true) :
  CallsIn Fence.wide 0 P f vs w fun e w'=>∃ v,e=.returned v∧∃ r hp',Q0 r hp'∧(eQ chp hp'→∃ β2,Sim B β2 { aft s σ d chp hp' r with fr:=s.fr } tm w' ∧
   VR w'.heap ((aft s σ d chp hp' r).own B.A β2) (d::s.used) (aft s σ d chp hp' r).hp β2 v (r.ren (cj σ d chp))):=by
 obtain ⟨O0',hO⟩:∃ O0':Nat→Prop,∀ b,O0' b↔∃ p k,chp.any (fun q=>q.1 == p)=true∧β (σ p)=some k∧k.b=b:=⟨_,fun _=>Iff.rfl⟩
 obtain ⟨A',hA⟩:∃ A':Nat→Prop,∀ b,A' b↔s'.own B.A β b∧¬ O0' b:=⟨_,fun _=>Iff.rfl⟩
 obtain ⟨A2,hA2⟩:∃ A2:Nat→Prop,∀ b,A2 b↔s.own B.A β b∧¬ O0' b:=⟨_,fun _=>Iff.rfl⟩
 have hA':∀ b,A' b→b<w.heap.size:=fun b hb=>h'.pZ ((hA b).1 hb).1
 have hA2':∀ b,A2 b→b<w.heap.size:=fun b hb=>h.pZ ((hA2 b).1 hb).1
 have hpass0:gP σ cu s chp:=by
  clear hinj hO hcu hv hc
  induction chp with
  | nil=>trivial
  | cons q r ih=>exact ⟨⟨hsub _ _ hpass.1.1,hpass.1.2⟩,ih hpass.2⟩
 have hG':∀ q∈B.G,w.heap[q.1]?=some q.2∧¬ O0' q.1:=fun q hq=>by
  obtain ⟨g1,g2⟩:=B.hG q hq
  have hlt:=ah g1
  refine ⟨(h.frame _ hlt g2).trans g1,fun hb=>?_⟩
  obtain ⟨p,k,hp,hk,e⟩:=(hO _).1 hb
  obtain ⟨o,ho⟩:=lJ hp
  obtain ⟨h1,_,_⟩:=dJ hpass0 _ (lkS ho)
  obtain ⟨_,_,g3⟩:=h.blocks (σ p) k (by rw [h1];simp) hk
  rcases g3 with g3 | g3
  ·omega
  ·exact g2 (e ▸ g3)
 have hβc:∀ p,chp.any (fun q=>q.1 == p)=true→(fun p=>β (σ p)) p=β (σ p):=fun _ _=>rfl
 have live:∀ p o,lkA none (chp.map fun x=>(x.1,some x.2)) p=some o→s'.hp (σ p)=some (o.ren σ)∧o.inU cu=true∧nm cu p:=fun p o ho=>by
  obtain ⟨h1,h2,h3⟩:=dJ hpass _ (lkS ho)
  exact ⟨h1,h2,eh h3⟩
 have hown:∀ b,(mk (aB 0 cargs) chp cu).own A' (fun p=>β (σ p)) b→s'.own B.A β b:=by
  intro b hb
  rcases sX hb with hb | ⟨p,k,o,ho,hk,rfl⟩
  ·exact ((hA b).1 hb).1
  ·exact .inr ⟨σ p,k,by rw [(live p o ho).1];simp,hk,rfl⟩
 have hr:∀ v d,Rep w.heap (s'.own B.A β) v d→Rep w.heap ((mk (aB 0 cargs) chp cu).own A' (fun p=>β (σ p))) v d:=fun v d hd=>hd.mono (fun _ _ _=>rfl) (fun b _=>hown b)
 have hob:∀ p o,(mk (aB 0 cargs) chp cu).hp p=some o→s'.hp (σ p)=some (o.ren σ)∧(fun p=>β (σ p)) p=β (σ p):=fun p o ho=>⟨(live p o ho).1,rfl⟩
 have hsim:Sim { n:=cargs.length,io:=B.io,G:=B.G,H0:=w.heap,O0:=O0',A:=A',U0:=cu,β0:=fun p=>β (σ p),hA:=hA',hG:=hG' } (fun p=>β (σ p)) (mk (aB 0 cargs) chp cu) vs w:=by
  refine { tms:=hvs,io:=h.io,size:=Nat.le_refl _,frame:=fun _ _ _=>rfl,slots:=fun t=>?_,objs:=fun p o ho=>⟨(live p o ho).2.2,OR.ren hr hob rfl (live p o ho).2.1 (h'.objs _ _ (live p o ho).1).2⟩,blocks:=fun p k hp hk=>?_,inj:=fun p q k l hp hq hk hl e=>?_,us:=fun _ hx=>hx,stay:=fun _ _=>rfl }
  ·rw [df,a8,if_pos (Nat.zero_le _),Nat.sub_zero]
   cases ht:cargs[t]? with
   | none=>exact .un _
   | some x=>exact (hv t x ht).ren hr hob x rfl (dY hcu t x ht)
  ·cases ho:(mk (aB 0 cargs) chp cu).hp p with
   | none=>exact absurd ho hp
   | some o =>
     have hin:O0' k.b:=(hO _).2 ⟨p,k,List.any_eq_true.2 ⟨_,lkS ho,by simp⟩,hk,rfl⟩
     obtain ⟨g1,_,_⟩:=h'.blocks (σ p) k (by rw [(live p o ho).1];simp) hk
     exact ⟨g1,fun ha=>((hA _).1 ha).2 hin,.inr hin⟩
  ·cases ho:(mk (aB 0 cargs) chp cu).hp p with
   | none=>exact absurd ho hp
   | some o =>
     cases ho':(mk (aB 0 cargs) chp cu).hp q with
     | none=>exact absurd ho' hq
     | some o' =>
       have e2:=h'.inj (σ p) (σ q) k l (by rw [(live p o ho).1];simp) (by rw [(live q o' ho').1];simp) hk hl e
       exact ik hinj _ (lkS ho) _ (lkS ho') e2
 have hgo:=fun h1 h2 h3 h4=>hc.2 _ _ vs w h1 h2 h3 h4 hsim
 refine (hgo rfl rfl rfl rfl).mono ?_
 rintro e w' ⟨v,r,hp',u',β',rfl,hQ,hs⟩
 obtain ⟨f1,f2⟩:=hflat r hp' hQ
 have hs2:=hs.reown (A2:=A2) (hA2:=hA2') (fun b hb=>((hA2 b).1 hb).2) (fun t=>by
  simp only [lkA]
  split
  ·exact f1
  ·rfl) f2
 exact ⟨v,rfl,r,hp',hQ,fun hl=>vZ h hd hpass0 hinj hβc hO hA2 hA2' hG' hl hs2⟩
section
variable {P:Program} {cf:Cf}
section
variable {Q:Exit→St→Prop} {s:St} {k:List It}
theorem xN {dst:Option Nat} {fv:Operand} {args:Array Operand} {at':Array TypeId} {ty:TypeId} {pos:String} {af:Array Edge} {g:Option (Nat × Bool)}
  (L:List (Name × W × List D)) (hL:Lok s L) {f:FuncId} {caps:List AV} {ds:List D} {Q0:AV→Prop} (hc:HP P cf.G f ds Q0) (hflat:∀ r,Q0 r→r.flat=true)
  (hev:ev (s.dG L) fv=.clo f caps) (hargs:args.toList.map (ev (s.dG L))++caps=ds.map .d) (hdst:∀ t∈dst,t<cf.n) (hk:∀ r,Q0 r→run P cf k Q (s.ew dst r)) :
  AOk P cf { dst:=dst,op:=.call { callee:=.value fv,args:=args,argTypes:=at' },type:=ty,pos:=pos,after:=af,guard:=g } s k Q:=by
 intro B hB ds' β a w hds h Q'
 obtain ⟨d,hd⟩:=j4 s.used
 refine ⟨fun _ _=>trivial,?_⟩
 have h':=sW L s h hL
 have hf:=h'.ev fv
 rw [hev] at hf
 generalize hfv:a.eval fv=fval at hf
 cases hf with
 | clo _ cvs _ hcs hcv =>
 have hrun:∀ vs,vs=(args.toList.map a.eval).toArray++cvs→(execOp a.eval { dst:=dst,op:=.call { callee:=.value fv,args:=args,argTypes:=at' },type:=ty,pos:=pos,after:=af,guard:=g }).run P w=.ok (.enter f vs) w:=by
  intro vs hvs
  have e:(execOp a.eval { dst:=dst,op:=.call { callee:=.value fv,args:=args,argTypes:=at' },type:=ty,pos:=pos,after:=af,guard:=g }:Sem Next)=callFunc f (#[]++args.map a.eval++cvs):=by
   show (do let d ← (Deferred.ofValue (a.eval fv) (args.map a.eval));invoke d.target d.args:Sem Next)=_
   rw [hfv];rfl
  rw [e,← hc.1 vs w,hvs]
  congr 2
  apply Array.ext'
  simp
 rw [Oper.semAt_eq _ _ _ (by simp),hrun _ rfl,Oper.uponIn_enter]
 refine ⟨fun hdep=>by simp [fy] at hdep,?_⟩
 have hlen:(ds.map AV.d).length=args.size+caps.length:=by
  have:=congrArg List.length hargs
  simpa using this.symm
 have hvs:((args.toList.map a.eval).toArray++cvs).size=(ds.map AV.d).length:=by simp [hcs] at hlen ⊢;omega
 have hv:∀ (i:Nat) x,(ds.map AV.d)[i]?=some x→VR w.heap ((s.dG L).own B.A β) (s.dG L).used (s.dG L).hp β (((args.toList.map a.eval).toArray++cvs).getD i undef) (x.ren id):=by
  intro i x hi
  rw [AV.dL id (fun _=>rfl)]
  have hx:=hi
  rw [← hargs] at hx
  by_cases hlt:i<args.size
  ·have hx':(args.toList.map (ev (s.dG L)))[i]?=some x:=by rw [← hx,List.getElem?_append_left (by simpa using hlt)]
   have:=eO h' args.toList i _ hx'
   rw [show ((args.toList.map a.eval).toArray++cvs).getD i undef=(args.toList.map a.eval).toArray.getD i undef by simp [Array.getD_eq_getD_getElem?,Array.getElem?_append,hlt]]
   exact this
  ·have hx':caps[i-args.size]?=some x:=by rw [← hx,List.getElem?_append_right (by simpa using Nat.le_of_not_lt hlt)];simp
   have:=hcv _ _ hx'
   rw [show ((args.toList.map a.eval).toArray++cvs).getD i undef=cvs.getD (i-args.size) undef by simp [Array.getD_eq_getD_getElem?,Array.getElem?_append,hlt]]
   exact this
 have hcall:=wj (P:=P) h h' (fun p o ho=>vC L s p o ho) (Q0:=fun r hp'=>Q0 r∧r.inU []=true∧hp'=[]) (σ:=id) (d:=d) hd (chp:=[]) (cu:=[]) trivial trivial (p8 _ _) hvs hv (by rw [hB.2.2];exact hc) (fun r hp' hq=>⟨hflat r hq.1,by rw [hq.2.2];rfl⟩)
 have hcall':CallsIn (Fw cf.ro) (0-1) P f ((args.toList.map a.eval).toArray++cvs) w _:=hcall
 refine hcall'.mono ?_
 rintro e w' ⟨v,rfl,r,hp',⟨hQ,hru,rfl⟩,hl⟩
 obtain ⟨β2,hs2,hv2⟩:=hl trivial
 rw [AV.jY _ r hru] at hv2
 have hru':=AV.jy s.used r hru
 refine ⟨by cases dst<;>exact hds,s.ew dst r,?_⟩
 cases dst with
 | none =>
   obtain ⟨β3,h3⟩:=h.unuse hs2 rfl (t0:=0) (x0:=s.fr 0) (fun _=>.inr rfl) rfl (h.slots 0).inU
   exact ⟨β3,aP (hk r hQ),h3⟩
 | some t =>
   have h2:=hs2.put (t:=t) (by rw [hB.1];exact hdst t rfl) hv2
   obtain ⟨β3,h3⟩:=h.unuse h2 rfl (t0:=t) (x0:=r) (fun u=>by
    by_cases e:u=t
    ·exact .inl e
    ·exact .inr (by show cg _ _ _ _=_;simp [cg,e])) (by show cg _ _ _ _=_;simp [cg]) hru'
   exact ⟨β3,aP (hk r hQ),h3⟩
theorem A7 (E:Eng P cf Q) {dst:Option Nat} {fv:Operand} {args:Array Operand} {at':Array TypeId} {ty:TypeId} {pos:String} {af:Array Edge}
  (L:List (Name × W × List D)) {f:FuncId} {caps:List AV} {ds:List D} {Q0:AV→Prop} (hc:HP P cf.G f ds Q0) (hflat:∀ r,Q0 r→r.flat=true) (hL:Lok s L)
  (hev:ev (s.dG L) fv=.clo f caps) (hargs:args.toList.map (ev (s.dG L))++caps=ds.map .d) (hdst:∀ t∈dst,t<cf.n) (hk:∀ r,Q0 r→E.run k (s.ew dst r)) :
  E.stp { dst:=dst,op:=.call { callee:=.value fv,args:=args,argTypes:=at' },type:=ty,pos:=pos,after:=af,guard:=none } s k .no:=by
 rw [aM]
 exact xN L hL hc hflat hev hargs hdst fun r hr=>by rw [← E.run_eq];exact hk r hr
section
variable {ops:Array Oper} {K:St→Ns→Prop} {r:List Oper} {ns:Ns}
end
end
attribute [go_sem] zA xB D.flat jW AV.flat fW pf rr Ob.flat List.isEmpty_nil
end
end Go.Ab
namespace Go.Ab
def Ob.frz (p:Name) (w:W) (xs:List D):Ob→Ob
 | .boxT ty cs=>.boxT ty (Go.Ab.dG p w xs cs)
 | o=>o
theorem Ob.Ao (p:Name) (w:W) (xs:List D) (o:Ob):o.like (o.frz p w xs):=by
 cases o<;>simp [Ob.frz,Ob.like]
def St.eL (s:St) (p:Name) (w:W) (xs:List D):St:={ fr:=fun t=>(s.fr t).frz p w xs,hp:=fun q=>(aj s.hp p none q).map (Ob.frz p w xs),used:=s.used }
theorem Sim.eL {B:Base} {β:Name→Option Blk} {s:St} {tm:Array Value} {w:World} (h:Sim B β s tm w) {p:Name} {wf:W} {xs:List D} (hp:s.hp p=some (.arr wf xs)):Sim B β (s.eL p wf xs) tm w:=by
 have hsub:∀ q o',(s.eL p wf xs).hp q=some o'→q≠p∧∃ o,s.hp q=some o∧o'=o.frz p wf xs:=by
  intro q o' ho
  by_cases e:q=p
  ·subst e;simp [St.eL,aj] at ho
  ·simp only [St.eL,aj,if_neg e,Option.map_eq_some_iff] at ho
   obtain ⟨o,h1,h2⟩:=ho
   exact ⟨e,o,h1,h2.symm⟩
 have hne:∀ q,(s.eL p wf xs).hp q≠none→s.hp q≠none∧q≠p:=by
  intro q hq
  cases ho:(s.eL p wf xs).hp q with
  | none=>exact absurd ho hq
  | some o' =>
    obtain ⟨e,o,h1,_⟩:=hsub q o' ho
    exact ⟨by rw [h1];simp,e⟩
 have hr:∀ v d',Rep w.heap (s.own B.A β) v d'→Rep w.heap ((s.eL p wf xs).own B.A β) v d':=fun v d' hd=>hd.mono (fun _ _ _=>rfl) (by
  rintro b _ (hA | ⟨q,k,hq,hk,e⟩)
  ·exact .inl hA
  ·exact .inr ⟨q,k,(hne q hq).1,hk,e⟩)
 have hst:∀ q,nm s.used q→Stays s.hp (s.eL p wf xs).hp β β q:=fun q _ o' ho'=>by
  obtain ⟨_,o,h1,rfl⟩:=hsub q o' ho'
  exact ⟨o,h1,Ob.Ao p wf xs o,rfl⟩
 have hno:∀ k,β p=some k→¬ (s.eL p wf xs).own B.A β k.b:=by
  rintro k hk (hA | ⟨q,k',hq,hk',e⟩)
  ·exact (h.blocks p k (by rw [hp];simp) hk).2.1 hA
  ·exact (hne q hq).2 (h.inj q p k' k (hne q hq).1 (by rw [hp];simp) hk' hk e)
 have hvr:∀ {v:Value} {x:AV},VR w.heap (s.own B.A β) s.used s.hp β v x→VR w.heap ((s.eL p wf xs).own B.A β) s.used (s.eL p wf xs).hp β v (x.frz p wf xs):=fun hv=>hv.frz hr hst hp (h.objs p _ hp).2 hno
 refine { tms:=h.tms,io:=h.io,size:=h.size,frame:=h.frame,slots:=fun i=>hvr (h.slots i),objs:=fun q o' ho'=>?_,blocks:=fun q k hq hk=>h.blocks q k (hne q hq).1 hk,inj:=fun q q' k k' hq hq'=>h.inj q q' k k' (hne q hq).1 (hne q' hq').1,us:=h.us,stay:=h.stay }
 obtain ⟨_,o,h1,rfl⟩:=hsub q o' ho'
 obtain ⟨g1,g2⟩:=h.objs q o h1
 refine ⟨g1,?_⟩
 cases o with
 | boxT ty cs =>
   obtain ⟨k,c,e,a1,a2,a3,a4,a5,a6,a7⟩:=g2
   refine ⟨k,c,e,a1,a2,a3,a4,by rw [a5,dZ],a6,fun j x hj=>?_⟩
   rw [gS,Option.map_eq_some_iff] at hj
   obtain ⟨y,hy,rfl⟩:=hj
   exact hvr (a7 j y hy)
 | _=>exact g2.mono hr (fun _ h=>h) hst rfl fun _ _=>rfl
theorem sF (p:Name) (w:W) (xs:List D) (q:Name):∀ l:List (Name × Ob),(lkA none (l.map fun x=>(x.1,some x.2)) q).map (Ob.frz p w xs)=lkA none ((l.map fun x=>(x.1,x.2.frz p w xs)).map fun x=>(x.1,some x.2)) q
 | []=>rfl
 | x::r=>by
   simp only [lkA,List.map_cons]
   split
   ·rfl
   ·exact sF p w xs q r
theorem pR (fr:List (Nat × AV)) (hp:List (Name × Ob)) (u:List Nat) (p:Name) (w:W) (xs:List D):(mk fr hp u).eL p w xs=mk (fr.map fun q=>(q.1,q.2.frz p w xs)) ((ft hp p).map fun q=>(q.1,q.2.frz p w xs)) u:=by
 unfold St.eL mk
 congr 1
 ·funext t
  exact pQ p w xs t fr
 ·funext q
  rw [← sF,fb,fk]
  rfl
attribute [go_sem] pR Ob.frz
section
variable {P:Program} {cf:Cf} {Q:Exit→St→Prop} {s:St} {k:List It}
theorem dr (E:Eng P cf Q) {d:Option Nat} {op:Op} {ty:TypeId} {ps:String} {af:Array Edge} (p:Name) (w:W) (xs:List D) (hp:s.hp p=some (.arr w xs)) {s':St} (he:s.eL p w xs=s') (h:E.stp { dst:=d,op:=op,type:=ty,pos:=ps,after:=af,guard:=none } s' k (opR P.ti cf.n op d s')) :
  E.stp { dst:=d,op:=op,type:=ty,pos:=ps,after:=af,guard:=none } s k .no:=by
 subst he
 rw [aM]
 rw [E.stp_eq] at h
 have h1:=dD (o:={ dst:=d,op:=op,type:=ty,pos:=ps,after:=af,guard:=none }) rfl h
 intro B hB ds β a w' hds hs Q'
 exact h1 B hB ds β a w' hds (hs.eL hp) Q'
theorem eR (E:Eng P cf Q) {c:Code} (p:Name) (w:W) (xs:List D) (hp:s.hp p=some (.arr w xs)) (h:bM E c (s.eL p w xs) k):bM E c s k:=by
 intro B hB ds β a w' hds hs
 exact h B hB ds β a w' hds (hs.eL hp)
section
variable {ops:Array Oper} {K:St→Ns→Prop} {r:List Oper} {ns:Ns}
theorem D6 (E:XEng P cf ops K) {t:TypeId} {x y:Operand} {yt:TypeId} {dst:Nat} {ty:TypeId} {ps:String} {af:Array Edge} {g:Option (Nat × Bool)} (neg:Bool) {a0s bs:List D} {b:Bool} {fs:List (Nat × Nat)} (hst:P.bX t=true) (hk:(P.ti t).k=.struct fs) (hd:dst<cf.n)
  (hx:ev s x=.d (.agg a0s)) (hy:ev s y=.d (.agg bs)) (h:eqS P.ti fs a0s bs=some b) (hr:E.run r (s.put dst (.d (.bool (if neg then !b else b)))) (ns++[([],[],[])])) :
  E.stp { dst:=some dst,op:=.binOp (if neg then .neq else .eql) t x y yt,type:=ty,pos:=ps,after:=af,guard:=g } r s ns .no:=by
 refine jq E (x:=.d (.bool (if neg then !b else b))) [] (fun t ht=>by rw [Option.mem_def,Option.some.injEq] at ht;rw [← ht];exact hd) (fun s' _ he=>?_) hr
 exact Bj neg hst hk hd ((he x (by simp [Op.operands])).trans hx) ((he y (by simp [Op.operands])).trans hy) h (by rw [cX];rfl)
theorem EX (E:XEng P cf ops K) {t:TypeId} {x y:Operand} {yt:TypeId} {dst:Nat} {ty:TypeId} {ps:String} {af:Array Edge} {g:Option (Nat × Bool)} {a0s bs:List D} {b:Bool} {fs:List (Nat × Nat)} (hst:P.bX t=true) (hk:(P.ti t).k=.struct fs) (hd:dst<cf.n)
 (hx:ev s x=.d (.agg a0s)) (hy:ev s y=.d (.agg bs)) (h:eqS P.ti fs a0s bs=some b) (hr:E.run r (s.put dst (.d (.bool (!b)))) (ns++[([],[],[])])) :
 E.stp { dst:=some dst,op:=.binOp .neq t x y yt,type:=ty,pos:=ps,after:=af,guard:=g } r s ns .no:=D6 E true hst hk hd hx hy h hr
end
end
end Go.Ab
namespace Go.Ab
open Go.ChangeMaps (setBlock)
mutual
def AV.frM (p:Name) (d:D):AV→AV
 | .un=>.un
 | .d x=>.d x
 | .vw q o l=>.vw q o l
 | .bx q c=>.bx q c
 | .el q i c=>.el q i c
 | .mp q=>if q=p then .d d else .mp q
 | .it q=>.it q
 | .agg cs=>fc (kn p d cs)
 | .tup cs=>.tup (kn p d cs)
 | .clo f cs=>sM f (kn p d cs)
 | .va q o l=>.va q o l
 | .ea q i=>.ea q i
 | .ma q=>.ma q
def kn (p:Name) (d:D):List AV→List AV
 | []=>[]
 | x::r=>x.frM p d::kn p d r
end
theorem dS (p:Name) (d:D):∀ l:List AV,(kn p d l).length=l.length
 | []=>rfl
 | _::r=>by simp [kn,dS p d r]
theorem iy (p:Name) (d:D):∀ (l:List AV) (i:Nat),(kn p d l)[i]?=(l[i]?).map (AV.frM p d)
 | [],i=>by simp [kn]
 | x::r,i=>by
   cases i with
   | zero=>simp [kn]
   | succ i=>simpa [kn] using iy p d r i
section
variable {H:Array Obj} {own own':Nat→Prop} {used:List Nat} {hp hp':Name→Option Ob} {β:Name→Option Blk}
theorem VR.frM {p:Name} {d:D} {es:List (D × D)} (hr:∀ v d,Rep H own v d→Rep H own' v d) (hst:∀ q,nm used q→Stays hp hp' β β q) (hp0:hp p=some (.map es)) (hd:∀ k,β p=some k→Rep H own' (.map (some k.b)) d)
  {v:Value} {x:AV} (h:VR H own used hp β v x):VR H own' used hp' β v (x.frM p d):=by
 induction h with
 | un v=>exact .un v
 | d v x h=>exact .d v x (hr v x h)
 | vw v q off len hn h1 h=>exact VR.mono hr (fun _ h=>h) hst (.vw v q off len hn h1 h)
 | bx v q c hn h1 h=>exact VR.mono hr (fun _ h=>h) hst (.bx v q c hn h1 h)
 | el v q i c hn h1 h=>exact VR.mono hr (fun _ h=>h) hst (.el v q i c hn h1 h)
 | mp v q hn h1 h =>
   unfold AV.frM
   split
   ·rename_i e
    subst e
    obtain ⟨k,hk,rfl⟩:=h _ hp0
    exact .d _ _ (hd k hk)
   ·exact VR.mono hr (fun _ h=>h) hst (.mp v q hn h1 h)
 | its v q hn h1 h h'=>exact VR.mono hr (fun _ h=>h) hst (.its v q hn h1 h h')
 | va v q off len hn h1 h=>exact VR.mono hr (fun _ h=>h) hst (.va v q off len hn h1 h)
 | ea v q i hn h1 h=>exact VR.mono hr (fun _ h=>h) hst (.ea v q i hn h1 h)
 | ma v q hn h1 h=>exact VR.mono hr (fun _ h=>h) hst (.ma v q hn h1 h)
 | agg vs cs hs hc _ ih =>
   have:=eJ (H:=H) (own:=own') (used:=used) (hp:=hp') (β:=β) (vs:=vs.toList) (cs:=kn p d cs) (by rw [dS];simpa using hs) (by simpa using hc) (fun i v x hv hx=>by
    rw [iy,Option.map_eq_some_iff] at hx
    obtain ⟨y,hy,rfl⟩:=hx
    have:=ih i y hy
    have e:vs.getD i undef=v:=by
     simp only [Array.getElem?_toList] at hv
     simp [Array.getD_eq_getD_getElem?,hv]
    rw [e] at this
    exact this)
   simpa [AV.frM] using this
 | tup vs cs hs _ ih =>
   refine .tup vs _ (by rw [dS];exact hs) (fun i x hi=>?_)
   rw [iy,Option.map_eq_some_iff] at hi
   obtain ⟨y,hy,rfl⟩:=hi
   exact ih i y hy
 | clo f vs cs hs _ ih =>
   refine oG (by rw [dS];exact hs) (fun i x hi=>?_)
   rw [iy,Option.map_eq_some_iff] at hi
   obtain ⟨y,hy,rfl⟩:=hi
   exact ih i y hy
end
def Ob.frM (p:Name) (d:D):Ob→Ob
 | .boxT ty cs=>.boxT ty (kn p d cs)
 | o=>o
theorem Ob.Ai (p:Name) (d:D) (o:Ob):o.like (o.frM p d):=by
 cases o<;>simp [Ob.frM,Ob.like]
def St.frM (s:St) (p:Name) (d:D):St:={ fr:=fun t=>(s.fr t).frM p d,hp:=fun q=>(aj s.hp p none q).map (Ob.frM p d),used:=s.used }
def mpD (clk:Nat) (bs:List Nat) (es:List (D × D)):D:=.mpd clk bs (es.map (·.1)) (es.map (·.2))
def Stamps (clk:Nat) (bs:List Nat) (es:List (D × D)):Prop:=bs.length=es.length∧bs.Nodup∧∀ b∈bs,b<clk
theorem Sim.frM {B:Base} {β:Name→Option Blk} {s:St} {tm:Array Value} {w:World} (h:Sim B β s tm w) {p:Name} {es:List (D × D)} (hp:s.hp p=some (.map es)):∃ clk bs,Stamps clk bs es∧Sim B β (s.frM p (mpD clk bs es)) tm w:=by
 obtain ⟨k0,ents,clk,hk0,hc0,⟨hsz,hb1,hb2⟩,hent⟩:=(h.objs p _ hp).2
 refine ⟨clk,ents.toList.map (·.born),⟨by simp [hsz],hb1,fun b hb=>?_⟩,?_⟩
 ·obtain ⟨e,he,rfl⟩:=List.mem_map.1 hb
  exact hb2 e he
 obtain ⟨d,hd0⟩:∃ d,d=mpD clk (ents.toList.map (·.born)) es:=⟨_,rfl⟩
 rw [← hd0]
 have hsub:∀ q o',(s.frM p d).hp q=some o'→q≠p∧∃ o,s.hp q=some o∧o'=o.frM p d:=by
  intro q o' ho
  by_cases e:q=p
  ·subst e;simp [St.frM,aj] at ho
  ·simp only [St.frM,aj,if_neg e,Option.map_eq_some_iff] at ho
   obtain ⟨o,h1,h2⟩:=ho
   exact ⟨e,o,h1,h2.symm⟩
 have hne:∀ q,(s.frM p d).hp q≠none→s.hp q≠none∧q≠p:=by
  intro q hq
  cases ho:(s.frM p d).hp q with
  | none=>exact absurd ho hq
  | some o' =>
    obtain ⟨e,o,h1,_⟩:=hsub q o' ho
    exact ⟨by rw [h1];simp,e⟩
 have hr:∀ v d',Rep w.heap (s.own B.A β) v d'→Rep w.heap ((s.frM p d).own B.A β) v d':=fun v d' hd=>hd.mono (fun _ _ _=>rfl) (by
  rintro b _ (hA | ⟨q,k,hq,hk,e⟩)
  ·exact .inl hA
  ·exact .inr ⟨q,k,(hne q hq).1,hk,e⟩)
 have hst:∀ q,nm s.used q→Stays s.hp (s.frM p d).hp β β q:=fun q _ o' ho'=>by
  obtain ⟨_,o,h1,rfl⟩:=hsub q o' ho'
  exact ⟨o,h1,Ob.Ai p d o,rfl⟩
 have hno:∀ k,β p=some k→¬ (s.frM p d).own B.A β k.b:=by
  rintro k hk (hA | ⟨q,k',hq,hk',e⟩)
  ·exact (h.blocks p k (by rw [hp];simp) hk).2.1 hA
  ·exact (hne q hq).2 (h.inj q p k' k (hne q hq).1 (by rw [hp];simp) hk' hk e)
 have hgd:∀ (i:Nat) (en:MapEntry),ents[i]?=some en→ents.getD i default=en:=fun i en h=>by simp [Array.getD_eq_getD_getElem?,h]
 have hdr:∀ k,β p=some k→Rep w.heap ((s.frM p d).own B.A β) (.map (some k.b)) d:=by
  intro k hk
  obtain rfl:=Option.some.inj (hk.symm.trans hk0)
  rw [hd0]
  refine .mpd k.b clk ents _ _ _ hc0 (by rw [← hd0];exact hno k hk) ⟨by simp [hsz],by simp⟩ rfl (fun i x hi=>?_) (fun i x hi=>?_)
  ·rw [List.getElem?_map,Option.map_eq_some_iff] at hi
   obtain ⟨y,hy,rfl⟩:=hi
   obtain ⟨en,h1,h2,_⟩:=hent i y hy
   rw [hgd i en h1,← hd0]
   exact hr _ _ h2
  ·rw [List.getElem?_map,Option.map_eq_some_iff] at hi
   obtain ⟨y,hy,rfl⟩:=hi
   obtain ⟨en,h1,_,h2⟩:=hent i y hy
   rw [hgd i en h1,← hd0]
   exact hr _ _ h2
 have hvr:∀ {v:Value} {x:AV},VR w.heap (s.own B.A β) s.used s.hp β v x→VR w.heap ((s.frM p d).own B.A β) s.used (s.frM p d).hp β v (x.frM p d):=fun hv=>hv.frM hr hst hp hdr
 refine { tms:=h.tms,io:=h.io,size:=h.size,frame:=h.frame,slots:=fun i=>hvr (h.slots i),objs:=fun q o' ho'=>?_,blocks:=fun q k hq hk=>h.blocks q k (hne q hq).1 hk,inj:=fun q q' k k' hq hq'=>h.inj q q' k k' (hne q hq).1 (hne q' hq').1,us:=h.us,stay:=h.stay }
 obtain ⟨_,o,h1,rfl⟩:=hsub q o' ho'
 obtain ⟨g1,g2⟩:=h.objs q o h1
 refine ⟨g1,?_⟩
 cases o with
 | boxT ty cs =>
   obtain ⟨k,c,e,a1,a2,a3,a4,a5,a6,a7⟩:=g2
   refine ⟨k,c,e,a1,a2,a3,a4,by rw [a5,dS],a6,fun j x hj=>?_⟩
   rw [iy,Option.map_eq_some_iff] at hj
   obtain ⟨y,hy,rfl⟩:=hj
   exact hvr (a7 j y hy)
 | _=>exact g2.mono hr (fun _ h=>h) hst rfl fun _ _=>rfl
theorem vI (p:Name) (d:D) (t:Nat):∀ l:List (Nat × AV),(lkA .un l t).frM p d=lkA .un (l.map fun q=>(q.1,q.2.frM p d)) t
 | []=>rfl
 | q::r=>by
   simp only [lkA,List.map_cons]
   split
   ·rfl
   ·exact vI p d t r
theorem sy (p:Name) (d:D) (q:Name):∀ l:List (Name × Ob),(lkA none (l.map fun x=>(x.1,some x.2)) q).map (Ob.frM p d)=lkA none ((l.map fun x=>(x.1,x.2.frM p d)).map fun x=>(x.1,some x.2)) q
 | []=>rfl
 | x::r=>by
   simp only [lkA,List.map_cons]
   split
   ·rfl
   ·exact sy p d q r
theorem An (fr:List (Nat × AV)) (hp:List (Name × Ob)) (u:List Nat) (p:Name) (d:D):(mk fr hp u).frM p d=mk (fr.map fun q=>(q.1,q.2.frM p d)) ((ft hp p).map fun q=>(q.1,q.2.frM p d)) u:=by
 unfold St.frM mk
 congr 1
 ·funext t
  exact vI p d t fr
 ·funext q
  rw [← sy,fb,fk]
  rfl
attribute [go_sem] An AV.frM kn Ob.frM
theorem filter_push {Z:List (Nat × (D × D))} (hn:(Z.map (·.1)).Nodup) (seen:Array Nat) {q:Nat × (D × D)} (hq:q∈Z) (hs:seen.contains q.1=false) :
  ∃ l1 l2,Z.filter (fun q=>!seen.contains q.1)=l1++q::l2∧Z.filter (fun r=>!(seen.push q.1).contains r.1)=l1++l2:=by
 have hqf:q∈Z.filter (fun q=>!seen.contains q.1):=List.mem_filter.2 ⟨hq,by rw [hs];rfl⟩
 obtain ⟨l1,l2,e⟩:=List.append_of_mem hqf
 refine ⟨l1,l2,e,?_⟩
 have hsub:((Z.filter (fun q=>!seen.contains q.1)).map (·.1)).Nodup:=hn.sublist (List.filter_sublist.map _)
 rw [e,List.map_append,List.map_cons] at hsub
 have h0:Z.filter (fun r=>!(seen.push q.1).contains r.1)=(Z.filter (fun q=>!seen.contains q.1)).filter (fun r=>!(r.1 == q.1)):=by
  rw [List.filter_filter]
  refine List.filter_congr fun r _=>?_
  simp only [Array.contains_push,Bool.not_or]
  rw [Bool.and_comm]
 rw [h0,e,List.filter_append,List.filter_cons]
 have hself:(!(q.1 == q.1))=false:=by simp
 rw [hself]
 simp only [Bool.false_eq_true,if_false]
 rw [List.nodup_append] at hsub
 obtain ⟨_,h2,h3⟩:=hsub
 have h2:=(List.nodup_cons.1 h2).1
 congr 1
 ·refine List.filter_eq_self.2 fun r hr=>?_
  have:=h3 r.1 (List.mem_map_of_mem hr) q.1 List.mem_cons_self
  simpa using this
 ·refine List.filter_eq_self.2 fun r hr=>?_
  have:r.1≠q.1:=fun e=>h2 (e ▸ List.mem_map_of_mem hr)
  simpa using this
section
variable {P:Program} {cf:Cf} {Q:Exit→St→Prop} {s:St} {k:List It}
theorem Fu (E:Eng P cf Q) {d:Option Nat} {op:Op} {ty:TypeId} {ps:String} {af:Array Edge} (p:Name) (es:List (D × D)) (hp:s.hp p=some (.map es))
  (h:∀ clk bs,Stamps clk bs es→∃ s',s.frM p (mpD clk bs es)=s'∧E.stp { dst:=d,op:=op,type:=ty,pos:=ps,after:=af,guard:=none } s' k (opR P.ti cf.n op d s')) :
  E.stp { dst:=d,op:=op,type:=ty,pos:=ps,after:=af,guard:=none } s k .no:=by
 rw [aM]
 intro B hB ds β a w' hds hs Q'
 obtain ⟨clk,bs,hst,hs'⟩:=hs.frM hp
 obtain ⟨_,rfl,h1⟩:=h clk bs hst
 rw [E.stp_eq] at h1
 exact dD (o:={ dst:=d,op:=op,type:=ty,pos:=ps,after:=af,guard:=none }) rfl h1 B hB ds β a w' hds hs' Q'
theorem yh {clk:Nat} {bs:List Nat} {es:List (D × D)} (h:Stamps clk bs es):MIt (mpD clk bs es) clk #[] clk none es:=by
 obtain ⟨h1,h2,h3⟩:=h
 refine ⟨clk,bs,_,_,rfl,by simpa using h1,by simp,h2,h3,⟨Nat.le_refl _,Nat.le_refl _⟩,?_,fun x hx=>by cases hx⟩
 have e:(es.map (·.1)).zip (es.map (·.2))=es:=by
  rw [List.zip_map']
  simp
 rw [e]
 have:((bs.zip es).filter fun q=>!(#[]:Array Nat).contains q.1)=bs.zip es:=List.filter_eq_self.2 fun x _=>by simp
 rw [this]
 exact (List.map_snd_zip (by omega)).symm
theorem ss (E:Eng P cf Q) {xt a b:Nat} {x:Operand} {t:Nat} {ty:TypeId} {pos:String} {af:Array Edge} {clk:Nat} {bs:List Nat} {es:List (D × D)} (hst:Stamps clk bs es) (hs:(P.ti xt).k=.map a b) (hx:ev s x=.d (mpD clk bs es)) (ht:t<cf.n) (hu:t ∉ s.used)
  (hk:E.run k ((s.add t (.miter (mpD clk bs es) none es)).put t (.it [t]))) :
  E.stp { dst:=some t,op:=.range xt x,type:=ty,pos:=pos,after:=af,guard:=none } s k .no:=by
 rw [aM]
 rw [E.run_eq] at hk
 intro B hB ds β ac w hds h Q'
 have hv:=h.ev x
 rw [hx] at hv
 have hv:=hv.toD
 generalize hval:ac.eval x=v at hv
 have hv0:=hv
 unfold mpD at hv
 cases hv with
 | mpd bb _ ents _ _ _ hb hn hsz hbs hkk hvv =>
 have hrun:(execOp ac.eval { dst:=some t,op:=.range xt x,type:=ty,pos:=pos,after:=af,guard:=none }).run P w=.ok (.value (.pointer (some ⟨w.heap.size,0,none⟩))) (w.alloc (.mapIter (some bb) clk #[] clk)):=by
  show (do pure (Next.value (← Instr.range xt (ac.eval x))):Sem Next).run P w=_
  rw [hval,Sem.run_bind,run_range_map w xt a b bb ents clk (cQ hs) hb]
  rfl
 obtain ⟨hsim,_⟩:=h.alloc hu (.mapIter (some bb) clk #[] clk) (.miter (mpD clk bs es) none es) 0 (fun β' hβ hvr=>by
  have h2:=(hvr _ _ (.d _ _ hv0)).toD
  exact ⟨_,bb,clk,#[],clk,hβ,by show (w.heap.push _)[w.heap.size]?=_;rw [Array.getElem?_push_size],h2,yh hst⟩)
 refine ao (by simp) hrun (.inl rfl) ⟨hds,_,_,aP hk,hsim.put (by rw [hB.1];exact ht) ?_⟩
 exact .its _ _ ⟨t,[],rfl,List.mem_cons_self⟩ rfl (fun l' i hi=>⟨⟨w.heap.size,0,0⟩,by simp [aj],rfl⟩) (fun l' c i hi=>⟨⟨w.heap.size,0,0⟩,by simp [aj],rfl⟩)
theorem vH (E:Eng P cf Q) {x:Operand} {t:Nat} {ty:TypeId} {ps:String} {af:Array Edge} (p:Name) (m:D) (cur:Option (D × D)) (todo:List (D × D)) (hx:ev s x=.it p) (hp:s.hp p=some (.miter m cur todo)) (ht:t<cf.n)
  (h1:∀ l1 y l2,todo=l1++y::l2→E.run k ((s.set p (some (.miter m (some y) (l1++l2)))).put t (.tup [.d (.bool true),.d y.1,.d y.2])))
  (h2:todo=[]→E.run k (s.put t (.tup [.d (.bool false)]))) :
  E.stp { dst:=some t,op:=.next x false,type:=ty,pos:=ps,after:=af,guard:=none } s k .no:=by
 rw [aM]
 intro B hB ds β ac w hds h Q'
 have hv:=h.ev x
 rw [hx] at hv
 generalize hval:ac.eval x=v at hv
 cases hv with
 | its _ _ hn ho g g' =>
 obtain ⟨kk,hk,rfl⟩:=g' m cur todo hp
 obtain ⟨k2,bb,since,seen,last,hk2,hh,hm,hit⟩:=(h.objs p _ hp).2
 obtain rfl:=Option.some.inj (hk.symm.trans hk2)
 have hlt:=ah hh
 obtain ⟨clk,bs,ks,vs,rfl,hl1,hl2,hnd,hlo,⟨hsl,hsc⟩,htodo,hcur⟩:=hit
 have hm0:=hm
 cases hm with
 | mpd _ _ ents _ _ _ hb hno hsz hbs hkk hvv =>
 have hget:∀ (i:Nat) (en:MapEntry),ents[i]?=some en→ents.getD i default=en:=fun i en h=>by simp [Array.getD_eq_getD_getElem?,h]
 have hold:∀ e∈ents.toList,e.born<since:=fun e he=>hlo _ (by rw [← hbs];exact List.mem_map_of_mem he)
 have hZ:(bs.zip (ks.zip vs)).map (·.1)=bs:=List.map_fst_zip (by rw [List.length_zip];omega)
 have hat:∀ i,i<ents.size→∃ en kd vd,ents[i]?=some en∧ks[i]?=some kd∧vs[i]?=some vd∧(bs.zip (ks.zip vs))[i]?=some (en.born,(kd,vd)):=by
  intro i hi
  have h1:i<ks.length:=by omega
  have h2:i<vs.length:=by omega
  refine ⟨ents[i],ks[i],vs[i],by simp,by simp,by simp,?_⟩
  have h3:bs[i]?=some ents[i].born:=by rw [← hbs];simp [hi]
  rw [List.getElem?_zip_eq_some]
  exact ⟨h3,by rw [List.getElem?_zip_eq_some];exact ⟨by simp,by simp⟩⟩
 rcases run_next_at (P:=P) w ty kk.b bb since last seen ents clk hh hb hold hsl with ⟨h0,hr⟩ | ⟨e,he,w1,hw1,hr⟩
 ·have hrun:(execOp ac.eval { dst:=some t,op:=.next x false,type:=ty,pos:=ps,after:=af,guard:=none }).run P w=.ok (.value (.tuple #[.bool false])) w:=by
   show (do pure (Next.value (← Instr.next (ac.eval x) false ty)):Sem Next).run P w=_
   rw [hval,Sem.run_bind,hr];rfl
  have hemp:todo=[]:=by
   rw [htodo,List.map_eq_nil_iff,List.filter_eq_nil_iff]
   intro q hq
   obtain ⟨i,hi⟩:=List.getElem?_of_mem hq
   have hi':i<ents.size:=by
    have:=(List.getElem?_eq_some_iff.1 hi).1
    rw [List.length_zip,List.length_zip] at this
    omega
   obtain ⟨en,kd,vd,g1,_,_,g4⟩:=hat i hi'
   rw [hi] at g4
   cases g4
   have hem:en∈ents.toList:=by
    have:=Array.mem_of_getElem? g1
    simpa using this
   have hne:en ∉ (leftOf ents seen).toList:=by
    intro hc
    have:0<(leftOf ents seen).size:=by
     have:=List.length_pos_of_mem hc
     simpa using this
    omega
   intro hcs
   apply hne
   unfold leftOf
   simp only [Array.toList_filter,List.mem_filter]
   exact ⟨hem,hcs⟩
  refine ao (by simp) hrun (.inl rfl) ⟨hds,_,_,aP (by rw [← E.run_eq];exact h2 hemp),h.put (by rw [hB.1];exact ht) ?_⟩
  refine .tup _ _ rfl fun i y hi=>?_
  match i,hi with
  | 0,hi=>obtain rfl:=Option.some.inj hi;exact .d _ _ (.bool _)
 ·have hrun:(execOp ac.eval { dst:=some t,op:=.next x false,type:=ty,pos:=ps,after:=af,guard:=none }).run P w=.ok (.value (.tuple #[.bool true,e.key,e.val])) (setBlock w1 kk.b (.mapIter (some bb) since (seen.push e.born) clk)):=by
   show (do pure (Next.value (← Instr.next (ac.eval x) false ty)):Sem Next).run P w=_
   rw [hval,Sem.run_bind,hr];rfl
  have he2:e∈ents.toList∧seen.contains e.born=false:=by
   unfold leftOf at he
   simp only [Array.toList_filter,List.mem_filter] at he
   exact ⟨he.1,by simpa using he.2⟩
  obtain ⟨i,hi⟩:=List.getElem?_of_mem he2.1
  have hi':ents[i]?=some e:=by simpa using hi
  have hil:=ah hi'
  obtain ⟨en,kd,vd,g1,g2,g3,g4⟩:=hat i hil
  obtain rfl:=Option.some.inj (hi'.symm.trans g1)
  obtain ⟨l1,l2,f1,f2⟩:=filter_push (Z:=bs.zip (ks.zip vs)) (by rw [hZ];exact hnd) seen (List.mem_of_getElem? g4) he2.2
  have hw:wio w1=wio w∧w1.heap=w.heap:=by rcases hw1 with rfl | rfl<;>exact ⟨rfl,rfl⟩
  have hkr:Rep w.heap (s.own B.A β) e.key kd:=by have:=hkk i kd g2;rwa [hget i e hi'] at this
  have hvr':Rep w.heap (s.own B.A β) e.val vd:=by have:=hvv i vd g3;rwa [hget i e hi'] at this
  obtain ⟨hsim,hvr⟩:=h.modify (p:=p) (ob':=.miter (.mpd clk bs ks vs) (some (kd,vd)) (l1.map (·.2)++l2.map (·.2))) hp trivial (w':=setBlock w1 kk.b (.mapIter (some bb) since (seen.push e.born) clk)) (by rw [← hw.1];rfl) (by simp [setBlock,hw.2])
   (fun b hb'=>by
    have:=hb' kk hk
    simp [setBlock,hw.2,Ne.symm this]) (fun _ hrr=>⟨kk,bb,since,seen.push e.born,clk,hk,by simp [setBlock,hw.2,hlt],hrr _ _ hm0,
     clk,bs,ks,vs,rfl,hl1,hl2,hnd,hlo,⟨hsc,hsc⟩,by rw [f2,List.map_append],fun x hx=>⟨rfl,e.born,by simp,by cases hx;exact List.mem_of_getElem? g4⟩⟩)
  refine ao (by simp) hrun (.inl rfl) ⟨hds,_,_,aP (by rw [← E.run_eq];exact h1 (l1.map (·.2)) (kd,vd) (l2.map (·.2)) (by rw [htodo,f1,List.map_append];rfl)),hsim.put (by rw [hB.1];exact ht) ?_⟩
  refine .tup _ _ rfl fun i y hi=>?_
  match i,hi with
  | 0,hi=>obtain rfl:=Option.some.inj hi;exact .d _ _ (.bool _)
  | 1,hi=>obtain rfl:=Option.some.inj hi;exact hvr _ _ (.d _ _ hkr)
  | 2,hi=>obtain rfl:=Option.some.inj hi;exact hvr _ _ (.d _ _ hvr')
theorem sv (E:Eng P cf Q) {x:Operand} {t:Nat} {ty:TypeId} {ps:String} {af:Array Edge} (p:Name) (m:D) (y:D × D) (todo:List (D × D)) (hx:ev s x=.it p) (hp:s.hp p=some (.miter m (some y) todo)) (ht:t<cf.n)
  (h1:E.run k (s.put t (.tup [.d y.1,.d y.2]))) :
  E.stp { dst:=some t,op:=.entry x,type:=ty,pos:=ps,after:=af,guard:=none } s k .no:=by
 rw [aM]
 intro B hB ds β ac w hds h Q'
 have hv:=h.ev x
 rw [hx] at hv
 generalize hval:ac.eval x=v at hv
 cases hv with
 | its _ _ hn ho g g' =>
 obtain ⟨kk,hk,rfl⟩:=g' m (some y) todo hp
 obtain ⟨k2,bb,since,seen,last,hk2,hh,hm,hit⟩:=(h.objs p _ hp).2
 obtain rfl:=Option.some.inj (hk.symm.trans hk2)
 obtain ⟨clk,bs,ks,vs,rfl,hl1,hl2,hnd,hlo,⟨hsl,hsc⟩,htodo,hcur⟩:=hit
 obtain ⟨rfl,st,hst,hmem⟩:=hcur y rfl
 cases hm with
 | mpd _ _ ents _ _ _ hb hno hsz hbs hkk hvv =>
 obtain ⟨i,hi⟩:=List.getElem?_of_mem hmem
 rw [List.getElem?_zip_eq_some] at hi
 obtain ⟨i1,i2⟩:=hi
 obtain ⟨i4,i3⟩:=List.getElem?_zip_eq_some.1 i2
 clear i2
 rw [← hbs,List.getElem?_map,Option.map_eq_some_iff] at i1
 obtain ⟨e,he,rfl⟩:=i1
 have he':ents[i]?=some e:=by simpa using he
 have hget:ents.getD i default=e:=by simp [Array.getD_eq_getD_getElem?,he']
 have hseen:seen=seen.pop.push e.born:=by
  refine Array.ext' ?_
  have h1:seen.toList.getLast?=some e.born:=by rw [← hst,Array.getLast?_toList]
  have h2:seen.toList≠[]:=fun h=>by rw [h] at h1;simp at h1
  rw [Array.toList_push,Array.toList_pop]
  have h3:seen.toList.getLast h2=e.born:=by
   rw [List.getLast?_eq_some_getLast h2] at h1
   exact Option.some.inj h1
  rw [← h3,List.dropLast_concat_getLast]
 rw [hseen] at hh
 have hr:=run_entry_at (P:=P) w kk.b bb since seen.pop ents last e hh hb (List.mem_of_getElem? he) (by rw [hbs];exact hnd)
 have hrun:(execOp ac.eval { dst:=some t,op:=.entry x,type:=ty,pos:=ps,after:=af,guard:=none }).run P w=.ok (.value (.tuple #[e.key,e.val])) w:=by
  show (do pure (Next.value (← Instr.entry (ac.eval x))):Sem Next).run P w=_
  rw [hval,Sem.run_bind,hr];rfl
 refine ao (by simp) hrun (.inl rfl) ⟨hds,_,_,aP (by rw [← E.run_eq];exact h1),h.put (by rw [hB.1];exact ht) ?_⟩
 have hkr:Rep w.heap (s.own B.A β) e.key y.1:=by have:=hkk i _ i4;rwa [hget] at this
 have hvr':Rep w.heap (s.own B.A β) e.val y.2:=by have:=hvv i _ i3;rwa [hget] at this
 refine .tup _ _ rfl fun i z hi=>?_
 match i,hi with
 | 0,hi=>obtain rfl:=Option.some.inj hi;exact .d _ _ hkr
 | 1,hi=>obtain rfl:=Option.some.inj hi;exact .d _ _ hvr'
end
end Go.Ab

namespace Go.Ab
section
variable {P:Program} {cf:Cf}
theorem Sim.mv {B B':Base} {β:Name→Option Blk} {s:St} {tm:Array Value} {w w':World} (h:Sim B β s tm w) (hn:B'.n=B.n) (hio:wio w'=B'.io) (hsz:B'.H0.size≤w'.heap.size)
  (hfr:∀ b,b<B'.H0.size→¬ B'.O0 b→w'.heap[b]?=B'.H0[b]?) (hw:w.heap.size≤w'.heap.size) (hk:∀ b,b<w.heap.size→¬ B.A b→w'.heap[b]?=w.heap[b]?)
  (hA:∀ b,b<w.heap.size→B'.A b→B.A b) (hbl:∀ p k,s.hp p≠none→β p=some k→B'.H0.size≤k.b∨B'.O0 k.b)
  (hus:∀ x∈B'.U0,x∈s.used) (hst:∀ p,nm B'.U0 p→β p=B'.β0 p):Sim B' β s tm w':=by
 have hown:∀ b,b<w.heap.size→s.own B'.A β b→s.own B.A β b:=by
  rintro b hb (h1 | h1)
  ·exact .inl (hA b hb h1)
  ·exact .inr h1
 have hr:∀ v d,Rep w.heap (s.own B.A β) v d→Rep w'.heap (s.own B'.A β) v d:=fun v d hd=>hd.mono (fun b hb hlt=>hk b hlt (fun ha=>hb (.inl ha))) hown
 have hst':∀ p,nm s.used p→Stays s.hp s.hp β β p:=fun p _ o' ho=>⟨o',ho,Ob.aQ _,rfl⟩
 refine { tms:=h.tms.trans hn.symm,io:=hio,size:=hsz,frame:=hfr,slots:=fun t=>(h.slots t).mono hr (fun _ h=>h) hst',objs:=fun p o ho=>⟨(h.objs p o ho).1,(h.objs p o ho).2.mono hr (fun _ h=>h) hst' rfl (fun k hk'=>?_)⟩,blocks:=fun p k hp hk'=>?_,inj:=h.inj,us:=hus,stay:=hst }
 ·obtain ⟨b1,b2,_⟩:=h.blocks p k (by rw [ho];simp) hk'
  exact hk k.b b1 b2
 ·obtain ⟨b1,b2,_⟩:=h.blocks p k hp hk'
  exact ⟨Nat.lt_of_lt_of_le b1 hw,fun ha=>b2 (hA _ b1 ha),hbl p k hp hk'⟩
def bx (s:St) (β:Name→Option Blk) (b:Nat):Prop:=∃ p k,s.hp p≠none∧β p=some k∧k.b=b
theorem Sim.ct {B:Base} {β:Name→Option Blk} {s:St} {tm:Array Value} {w:World} (h:Sim B β s tm w) {b:Nat} (hb:bx s β b):b<w.heap.size∧¬ B.A b∧(B.H0.size≤b∨B.O0 b):=by
 obtain ⟨p,k,hp,hk,rfl⟩:=hb
 exact h.blocks p k hp hk
def ARY (P:Program) (cf:Cf) (Φ:Exit→Act→World→Prop) (I:Base→List Deferred→Prop) (k:List It) (s:St):Prop :=
 ∀ B,cf.fits B→∀ ds β a w,a.defers=ds→I B ds→Sim B β s a.tmps w→hold P cf Φ k .normal a w
def ARX (cf:Cf) (Φ:Exit→Act→World→Prop) (I:Base→List Deferred→Prop) (e:Exit) (s:St):Prop :=
 ∀ B,cf.fits B→∀ ds β a w,a.defers=ds→I B ds→Sim B β s a.tmps w→Φ e a w
def yq (P:Program) (cf:Cf) (Φ:Exit→Act→World→Prop) (I:Base→List Deferred→Prop) (k:List It) (e:Exit) (s:St):Prop :=
 match e with
 | .normal=>ARY P cf Φ I k s
 | .exit i=>(match eN i k with
   | some k'=>ARY P cf Φ I k' s
   | none=>ARX cf Φ I (.exit i) s)
 | .ret=>ARX cf Φ I .ret s
 | _=>False
variable {Φ:Exit→Act→World→Prop} {I:Base→List Deferred→Prop} {k:List It} {s:St} {B:Base} {ds:List Deferred} {e:Exit} {a:Act} {w:World}
theorem wg:yq P cf Φ I k .normal s=ARY P cf Φ I k s:=rfl
theorem DK:yq P cf Φ I k .ret s=ARX cf Φ I .ret s:=rfl
theorem ry (i:Nat):yq P cf Φ I [] (.exit i) s=ARX cf Φ I (.exit i) s:=rfl
theorem pU (i:Nat) (c:Code):yq P cf Φ I (.code c::k) (.exit i) s=yq P cf Φ I k (.exit i) s:=rfl
theorem sZ (i:Nat) (all:Array Oper) (r:List Oper):yq P cf Φ I (.ops all r::k) (.exit i) s=yq P cf Φ I k (.exit i) s:=rfl
theorem tM (i:Nat):yq P cf Φ I (.blk i::k) (.exit i) s=ARY P cf Φ I k s:=by simp [yq,eN]
theorem jR {β:Name→Option Blk} (hB:cf.fits B) (hI:I B ds) (hd:a.defers=ds) (hq:yq P cf Φ I k e s) (hs:Sim B β s a.tmps w):hold P cf Φ k e a w:=by
 cases e with
 | normal=>exact hq B hB ds β a w hd hI hs
 | exit i =>
   simp only [yq] at hq
   split at hq
   ·rename_i k' hk';exact bS _ i k k' a w hk' (hq B hB ds β a w hd hI hs)
   ·rename_i hk';exact bU _ i k a w hk' (hq B hB ds β a w hd hI hs)
 | ret=>exact eM _ k a w (hq B hB ds β a w hd hI hs)
 | goto l=>exact hq.elim
 | panic c=>exact hq.elim
 | outgrown=>exact hq.elim
theorem Bw (hB:cf.fits B) (hI:I B ds) (h:lift B ds (yq P cf Φ I k) e a w):hold P cf Φ k e a w:=by
 obtain ⟨hd,s',β',hq,hs⟩:=h
 exact jR hB hI hd hq hs
theorem CZ {c:Code} (h:run P cf [.code c] (yq P cf Φ I k) s):ARY P cf Φ I (.code c::k) s :=
 fun B hB ds β a w hds hI hs=>wpIn_mono (aP h B hB ds β a w hds hs) fun _ _ _ hq=>Bw hB hI hq
theorem cr {c:Code} (h:∀ E:Eng P cf (yq P cf Φ I k),E.run [.code c] s):ARY P cf Φ I (.code c::k) s:=CZ (veil h)
theorem fO {x y:Code} (h:ARY P cf Φ I (.code x::.code y::k) s):ARY P cf Φ I (.code (.seq x y)::k) s :=
 fun B hB ds β a w hds hI hs=>wpIn_seq (wpIn_mono (h B hB ds β a w hds hI hs) (oC _ y k))
theorem qE {i:Nat} {x:Code} (h:ARY P cf Φ I (.code x::.blk i::k) s):ARY P cf Φ I (.code (.block i x)::k) s :=
 fun B hB ds β a w hds hI hs=>wpIn_block (wpIn_mono (h B hB ds β a w hds hI hs) (nv _ i k))
theorem CP {i:Nat} (h:ARY P cf Φ I k s):ARY P cf Φ I (.blk i::k) s:=fun B hB ds β a w hds hI hs=>h B hB ds β a w hds hI hs
theorem EE (h:ARX cf Φ I .normal s):ARY P cf Φ I [] s:=fun B hB ds β a w hds hI hs=>h B hB ds β a w hds hI hs
theorem yd {i:Nat} {ops:List Oper} (h:ARY P cf Φ I (.ops ops.toArray ops::k) s):ARY P cf Φ I (.code (.region i ops.toArray false)::k) s:=by
 intro B hB ds β a w hds hI hs
 refine wpIn_region ?_
 refine h B hB ds β a w hds hI hs _ ?_
 apply List.ext_getElem?
 intro j
 simp only [List.getElem?_map,List.size_toArray,List.getElem?_toArray]
 by_cases hj:j<ops.length
 ·simp [hj]
 ·simp [hj]
theorem oR {all:Array Oper} (h:ARY P cf Φ I k s):ARY P cf Φ I (.ops all []::k) s:=by
 intro B hB ds β a w hds hI hs l hl
 cases l with
 | nil=>exact h B hB ds β a w hds hI hs
 | cons i l=>simp at hl
theorem Bq {all:Array Oper} {o:Oper} {r:List Oper} (hg:o.guard=none) (h:(opR P.ti cf.n o.op o.dst s).run (fun s'=>ARY P cf Φ I (.ops all r::k) s') False):ARY P cf Φ I (.ops all (o::r)::k) s:=by
 intro B hB ds β a w hds hI hs l hl
 cases l with
 | nil=>simp at hl
 | cons i l =>
   simp only [List.map_cons,List.cons.injEq] at hl
   obtain ⟨hi,hl⟩:=hl
   have hw:Region.wanted o (yielded all a.tmps)=true:=by simp [Region.wanted,hg]
   simp only [wpOpsIn,hi,hw,if_true]
   rw [← hB.1] at h
   rcases eE hs h with hz | ⟨nx,v,w',s',β',hrun,hnx,hf,hs'⟩
   ·exact hz.elim
   ·have hnd:∀ c,o.op≠.defer c:=by
     intro c hc
     have:∃ d w2,(execOp a.eval o).run P w=.ok (.defer d) w2∨∃ h w2,(execOp a.eval o).run P w=.halt h w2:=by
      simp only [execOp,hc,Sem.run_bind]
      cases (resolve a.eval c o.type).run P w with
      | ok d w2=>exact ⟨d,w2,.inl rfl⟩
      | halt hh w2=>exact ⟨default,w2,.inr ⟨hh,w2,rfl⟩⟩
     obtain ⟨d,w2,h1 | ⟨hh,w3,h1⟩⟩:=this
     ·rw [hrun] at h1;cases h1;rcases hnx with h2 | ⟨h2,_⟩<;>cases h2
     ·rw [hrun] at h1;cases h1
    refine ao hnd hrun hnx (hf B hB ds β' _ w' ?_ hI hs' l hl)
    cases o.dst<;>exact hds
theorem Cl (s':St) (f:St→Prop) (z:Prop):(R.ok s').run f z=f s':=rfl
theorem xM (p:Prop) (x:R St) (f:St→Prop) (z:Prop):(R.need p x).run f z=(p∧x.run f z):=rfl
def lpY (P:Program) (cf:Cf) (Φ:Exit→Act→World→Prop) {X:Type} (S:X→St) (J:X→Base→List Deferred→Prop) (μ:X→Nat) (x:X) (k:List It) (e:Exit) (a:Act) (w:World):Prop :=
 match e with
 | .normal=>∃ y,μ y<μ x∧∃ B,cf.fits B∧J y B a.defers∧∃ β,Sim B β (S y) a.tmps w
 | e=>hold P cf Φ k e a w
theorem Di {X:Type} (S:X→St) (J:X→Base→List Deferred→Prop) (μ:X→Nat) {c:Code} (x0:X) (h0:∃ τ,Le cf.U τ s (S x0)) (hI:∀ B ds,I B ds→J x0 B ds)
  (hr:∀ x,ARY P cf (lpY P cf Φ S J μ x k) (J x) [.code c] (S x)):ARY P cf Φ I (.code (.loop c)::k) s:=by
 have key:∀ N x,μ x<N→∀ (B:Base),cf.fits B→∀ ds β a w,a.defers=ds→J x B ds→Sim B β (S x) a.tmps w→Code.roundsIn (Fw cf.ro) 0 P c (hold P cf Φ k) N a w:=by
  intro N
  induction N with
  | zero=>intro x hx;omega
  | succ N ih =>
    intro x hx B hB ds β a w hds hJ h
    rw [roundsIn_succ]
    refine wpIn_mono (hr x B hB ds β a w hds hJ h) fun e a' w' hq=>?_
    cases e with
    | normal =>
      obtain ⟨y,hy,B',hB',hJ',β',hs'⟩:=hq
      exact ih y (by omega) B' hB' _ β' a' w' rfl hJ' hs'
    | exit i=>exact hq
    | ret=>exact hq
    | goto l=>exact hq
    | panic c=>exact hq
    | outgrown=>exact hq
 obtain ⟨τ,hle⟩:=h0
 intro B hB ds β a w hds hi h
 obtain ⟨β2,hs2,_⟩:=h.le (τ:=τ) (by rw [hB.2.1];exact hle)
 exact wpIn_loop_rounds (μ x0+1) (key _ x0 (Nat.lt_succ_self _) B hB ds β2 a w hds (hI _ _ hi) hs2)
theorem rZ {X:Type} {S:X→St} {J:X→Base→List Deferred→Prop} {μ:X→Nat} {x:X} (y:X) (hy:μ y<μ x) (τ:Name→Name) (hle:Le cf.U τ s (S y)) (hI:∀ B ds,I B ds→J y B ds):ARY P cf (lpY P cf Φ S J μ x k) I [] s:=by
 intro B hB ds β a w hds hi h
 obtain ⟨β2,hs2,_⟩:=h.le (τ:=τ) (by rw [hB.2.1];exact hle)
 exact ⟨y,hy,B,hB,by rw [hds];exact hI _ _ hi,β2,hs2⟩
theorem sU {X:Type} {S:X→St} {J:X→Base→List Deferred→Prop} {μ:X→Nat} {x:X} {i:Nat} (h:yq P cf Φ I k (.exit i) s):ARX cf (lpY P cf Φ S J μ x k) I (.exit i) s :=
 fun _ hB _ _ _ _ hds hi hs=>jR hB hi hds h hs
theorem ux {X:Type} {S:X→St} {J:X→Base→List Deferred→Prop} {μ:X→Nat} {x:X} (h:ARX cf Φ I .ret s):ARX cf (lpY P cf Φ S J μ x k) I .ret s :=
 fun B hB ds β a w hds hi hs=>eM _ k a w (h B hB ds β a w hds hi hs)
end
end Go.Ab
namespace Go.Ab
structure Stp (W:World) (X:Nat→Prop) (W':World) (X':Nat→Prop):Prop where
 size:W.heap.size≤W'.heap.size
 io:wio W'=wio W
 same:∀ b,b<W.heap.size→¬ X b→W'.heap[b]?=W.heap[b]?
 new:∀ b,X' b→(X b∨W.heap.size≤b)∧b<W'.heap.size
structure Itz where
 l:Nat
 w:World
 C0:Nat→Prop
 J:Nat→(Nat→Prop)→(Nat→Prop)→World→Prop
 Jx:Nat→(Nat→Prop)→(Nat→Prop)→World→Prop
structure Itz.Ok (P:Program) (G:List (Nat × Obj)) (N:Nat) (xs:Nat→List D) (z:Itz):Prop where
 lt:∀ b,z.C0 b→b<z.w.heap.size
 stab:∀ n C X W X' W',z.J n C X W→Stp W X W' X'→z.J n C X' W'
 stabx:∀ n C X W X' W',z.Jx n C X W→Stp W X W' X'→z.Jx n C X' W'
 round:∀ n C X W vs,n<N→z.J n C X W→vs.size=(xs n).length→(∀ i d,(xs n)[i]?=some d→Rep W.heap (fun b=>C b∨X b) (vs.getD i undef) d) →
  YieldAt Fence.wide 0 P z.l vs W fun e W'=>∃ C',(wio W'=wio W∧W.heap.size≤W'.heap.size∧(∀ b,b<W.heap.size→¬ C b→W'.heap[b]?=W.heap[b]?)∧(∀ q∈G,W'.heap[q.1]?=W.heap[q.1]?)∧∀ b,C' b→(C b∨W.heap.size≤b)∧b<W'.heap.size) ∧
   ((e=.returned (.bool true)∧z.J (n+1) C' X W')∨(e=.returned (.bool false)∧z.Jx (n+1) C' X W'))
def ItC (P:Program) (G:List (Nat × Obj)) (f:FuncId) (caps:List D) (N:Nat) (xs:Nat→List D):Prop :=
 (∀ vs w,(callFunc f vs).run P w=.ok (.enter f vs) w) ∧
 ∀ z:Itz,z.Ok P G N xs→∀ cvs:Array Value,cvs.size=caps.length→(∀ i d,caps[i]?=some d→Rep z.w.heap z.C0 (cvs.getD i undef) d)→z.J 0 z.C0 (fun _=>False) z.w→(∀ q∈G,z.w.heap[q.1]?=some q.2) →
  CallsIn Fence.wide 0 P f (#[.func (.yield z.l) #[] #[]]++cvs) z.w fun e W'=>(∃ v,e=.returned v)∧∃ C X,z.J N C X W'∨∃ n,z.Jx n C X W'
def IJ (z:Itz) (J:(Nat→Prop)→(Nat→Prop)→World→Prop) (B:Base) (ds:List Deferred):Prop :=
 ds=[]∧∃ C X W0,W0.heap=B.H0∧wio W0=B.io∧J C X W0∧(∀ b,B.A b↔C b)∧(∀ b,B.O0 b↔X b)∧(∀ b,X b→z.w.heap.size≤b)∧z.w.heap.size≤W0.heap.size
def II (z:Itz) (n:Nat):Base→List Deferred→Prop:=IJ z (z.J n)
def IX (z:Itz):Base→List Deferred→Prop:=IJ z fun C X W=>∃ n,z.Jx n C X W
def ΦI (z:Itz) (N:Nat) (e:Exit) (a:Act) (w:World):Prop:=(e=.normal∨e=.ret)∧a.defers=[]∧∃ C X,z.J N C X w∨∃ n,z.Jx n C X w
section
variable {P:Program} {cf:Cf} {G:List (Nat × Obj)} {N:Nat} {xs:Nat→List D} {z:Itz} {k:List It} {s:St}
theorem IJ.stp {J:(Nat→Prop)→(Nat→Prop)→World→Prop} {B:Base} {ds:List Deferred} {β:Name→Option Blk} {tm:Array Value} {w:World} (h:IJ z J B ds) (hs:Sim B β s tm w) :
  ∃ C X W0,W0.heap=B.H0∧J C X W0∧Stp W0 X w (bx s β)∧(∀ b,B.A b↔C b)∧(∀ b,bx s β b→z.w.heap.size≤b)∧z.w.heap.size≤w.heap.size:=by
 obtain ⟨_,C,X,W0,h1,h2,hJ,hA,hO,hX,hz⟩:=h
 have hsz:W0.heap.size=B.H0.size:=by rw [h1]
 refine ⟨C,X,W0,h1,hJ,⟨by rw [hsz];exact hs.size,by rw [h2];exact hs.io,fun b hb hx=>?_,fun b hb=>?_⟩,hA,fun b hb=>?_,?_⟩
 ·rw [h1];exact hs.frame b (by rw [← hsz];exact hb) (fun ho=>hx ((hO b).1 ho))
 ·obtain ⟨b1,_,b3⟩:=hs.ct hb
  refine ⟨?_,b1⟩
  rcases b3 with b3 | b3
  ·exact .inr (by rw [hsz];exact b3)
  ·exact .inl ((hO b).1 b3)
 ·rcases (hs.ct hb).2.2 with b3 | b3
  ·have:=hs.size;omega
  ·exact hX b ((hO b).1 b3)
 ·have:=hs.size;omega
theorem Da {z:Itz} (hz:z.Ok P G N xs) {e:Exit} (he:e=.normal∨e=.ret):ARX cf (ΦI z N) (II z N) e s:=by
 intro B hB ds β a w hds hi hs
 obtain ⟨C,X,W0,_,hJ,hst,_⟩:=IJ.stp hi hs
 exact ⟨he,hds.trans hi.1,C,_,.inl (hz.stab _ _ _ _ _ _ hJ hst)⟩
theorem D5 {z:Itz} (hz:z.Ok P G N xs) {e:Exit} (he:e=.normal∨e=.ret):ARX cf (ΦI z N) (IX z) e s:=by
 intro B hB ds β a w hds hi hs
 obtain ⟨C,X,W0,_,⟨n,hJ⟩,hst,_⟩:=IJ.stp hi hs
 exact ⟨he,hds.trans hi.1,C,_,.inr ⟨n,hz.stabx _ _ _ _ _ _ hJ hst⟩⟩
theorem Ct (hz:z.Ok P cf.G N xs) {Φ:Exit→Act→World→Prop} {n t:Nat} {all:Array Oper} {fv:Operand} {args:Array Operand} {at':Array TypeId} {ty:TypeId} {pos:String} {af:Array Edge} {r:List Oper}
  (hn:n<N) (ht:t<cf.n) (hev:ev s fv=.d (.yl z.l)) (hargs:args.toList.map (ev s)=(xs n).map .d)
  (h1:ARY P cf Φ (II z (n+1)) (.ops all r::k) (s.put t (.d (.bool true)))) (h2:ARY P cf Φ (IX z) (.ops all r::k) (s.put t (.d (.bool false)))) :
  ARY P cf Φ (II z n) (.ops all ({ dst:=some t,op:=.call { callee:=.value fv,args:=args,argTypes:=at' },type:=ty,pos:=pos,after:=af,guard:=none }::r)::k) s:=by
 intro B hB ds β a w hds hI hs l hl
 cases l with
 | nil=>simp at hl
 | cons i l =>
   simp only [List.map_cons,List.cons.injEq] at hl
   obtain ⟨hi,hl⟩:=hl
   simp only [wpOpsIn,hi,Region.wanted,if_true]
   obtain ⟨C,X,W0,hW0,hJ,hst,hA,hX,hzw⟩:=IJ.stp hI hs
   have hJ':=hz.stab _ _ _ _ _ _ hJ hst
   have hf:=hs.ev fv
   rw [hev] at hf
   have hfv:a.eval fv=.func (.yield z.l) #[] #[]:=by
    have:=hf.toD
    generalize a.eval fv=v at this
    cases this;rfl
   have hlen:args.size=(xs n).length:=by simpa using congrArg List.length hargs
   have hrd:=hz.round n C (bx s β) w (args.map a.eval) hn hJ' (by simpa using hlen) (fun j d hj=>by
    have hx:(args.toList.map (ev s))[j]?=some (.d d):=by rw [hargs,List.getElem?_map,hj];rfl
    have:=(eO hs args.toList j _ hx).toD
    rw [show (args.map a.eval).getD j undef=(args.toList.map a.eval).toArray.getD j undef by simp [Array.getD_eq_getD_getElem?]]
    refine this.mono (fun _ _ _=>rfl) (fun b _ hb=>?_)
    rcases hb with hb | hb
    ·exact .inl ((hA b).2 hb)
    ·exact .inr hb)
   obtain ⟨fn,tmps,assign,body,hy,hrd⟩:=hrd
   refine ⟨fun _ _=>trivial,?_⟩
   have hrun:(execOp a.eval { dst:=some t,op:=.call { callee:=.value fv,args:=args,argTypes:=at' },type:=ty,pos:=pos,after:=af,guard:=none }:Sem Next).run P w=.ok (.round z.l fn tmps assign body) w:=by
    have e:(execOp a.eval { dst:=some t,op:=.call { callee:=.value fv,args:=args,argTypes:=at' },type:=ty,pos:=pos,after:=af,guard:=none }:Sem Next)=Instr.yield z.l (#[]++args.map a.eval++#[]):=by
     show (do let d ← (Deferred.ofValue (a.eval fv) (args.map a.eval));invoke d.target d.args:Sem Next)=_
     rw [hfv];rfl
    rw [e]
    simpa using hy
   rw [Oper.semAt_eq _ _ _ (by simp),hrun,Oper.uponIn_round]
   refine ⟨fun hdep=>by simp [fy] at hdep,?_⟩
   have hrd':RoundIn (Fw cf.ro) (0-1) P z.l fn tmps assign body w _:=hrd
   refine hrd'.mono ?_
   rintro e W' ⟨C',⟨c1,c2,c3,c4,c5⟩,hq⟩
   have hG':∀ q∈B.G,W'.heap[q.1]?=some q.2∧¬ bx s β q.1:=fun q hq=>by
    obtain ⟨g1,g2⟩:=B.hG q hq
    have hlt:=ah g1
    refine ⟨(c4 q (by rw [← hB.2.2];exact hq)).trans ((hs.frame _ hlt g2).trans g1),fun hb=>?_⟩
    rcases (hs.ct hb).2.2 with g3 | g3
    ·omega
    ·exact g2 g3
   let B':Base:={ n:=B.n,io:=B.io,G:=B.G,H0:=W'.heap,O0:=bx s β,A:=C',U0:=B.U0,β0:=B.β0,hA:=fun b hb=>(c5 b hb).2,hG:=hG' }
   have hs':Sim B' β s a.tmps W':=by
    refine hs.mv rfl (c1.trans hs.io) (Nat.le_refl _) (fun _ _ _=>rfl) c2 (fun b hb hn=>c3 b hb (fun hc=>hn ((hA b).2 hc))) (fun b hb hc=>?_) (fun p k hp hk=>.inr ⟨p,k,hp,hk,rfl⟩) hs.us hs.stay
    rcases (c5 b hc).1 with h | h
    ·exact (hA b).2 h
    ·omega
   have hIJ:∀ J:(Nat→Prop)→(Nat→Prop)→World→Prop,J C' (bx s β) W'→IJ z J B' ds:=fun J hj=>⟨hI.1,C',_,W',rfl,c1.trans hs.io,hj,fun _=>Iff.rfl,fun _=>Iff.rfl,hX,Nat.le_trans hzw c2⟩
   rcases hq with ⟨rfl,hj⟩ | ⟨rfl,hj⟩
   ·exact h1 B' ⟨hB.1,hB.2.1,hB.2.2⟩ ds β (a.put (some t) (.bool true)) W' hds (hIJ _ hj) (hs'.put (by show t<B.n;rw [hB.1];exact ht) (.d _ _ (.bool _))) l hl
   ·exact h2 B' ⟨hB.1,hB.2.1,hB.2.2⟩ ds β (a.put (some t) (.bool false)) W' hds (hIJ _ ⟨_,hj⟩) (hs'.put (by show t<B.n;rw [hB.1];exact ht) (.d _ _ (.bool _))) l hl
theorem A1 {G:List (Nat × Obj)} {f:FuncId} {fn:Func} {c:Code} {caps:List D} (hf:P.funcs[f]?=some fn) (hb:fn.body=some c) (hnm:(fn.name == "runtime.NumGoroutine")=false) (hn:caps.length+1≤fn.ntmps) (hres:fn.results=#[])
  (h:∀ z:Itz,z.Ok P G N xs→ARY P ⟨fn.ntmps,none,G,[]⟩ (ΦI z N) (II z 0) [.code c] (mk (aB 0 (.d (.yl z.l)::caps.map .d)) [] [])):ItC P G f caps N xs:=by
 refine ⟨db hf hb hnm,fun z hz cvs hsz hcv hJ hG=>?_⟩
 let B:Base:={ n:=fn.ntmps,io:=wio z.w,G:=G,H0:=z.w.heap,O0:=fun _=>False,A:=z.C0,U0:=[],β0:=fun _=>none,hA:=hz.lt,hG:=fun q hq=>⟨hG q hq,fun h=>h⟩ }
 have hsim:Sim B (fun _=>none) (mk (aB 0 (.d (.yl z.l)::caps.map .d)) [] []) ((#[Value.func (.yield z.l) #[] #[]]++cvs)++Array.replicate (fn.ntmps-(#[Value.func (.yield z.l) #[] #[]]++cvs).size) undef) z.w:=by
  have hown:∀ b,(mk (aB 0 (.d (.yl z.l)::caps.map .d)) [] []).own z.C0 (fun _=>none) b→z.C0 b:=by
   rintro b (hb | ⟨p,k,hp,_⟩)
   ·exact hb
   ·exact absurd rfl hp
  refine { tms:=by show (_:Array Value).size=fn.ntmps;simp;omega,io:=rfl,size:=Nat.le_refl _,frame:=fun _ _ _=>rfl,slots:=fun t=>?_,objs:=fun p o ho=>(by cases ho),blocks:=fun p k hp=>absurd rfl hp,inj:=fun p q k l hp=>absurd rfl hp,us:=fun _ hx=>hx,stay:=fun p hp=>(by obtain ⟨_,_,_,hx⟩:=hp;cases hx) }
  rw [df,a8,if_pos (Nat.zero_le _),Nat.sub_zero]
  cases t with
  | zero =>
    have e:((#[Value.func (.yield z.l) #[] #[]]++cvs)++Array.replicate (fn.ntmps-(#[Value.func (.yield z.l) #[] #[]]++cvs).size) undef).getD 0 undef=.func (.yield z.l) #[] #[]:=by
     simp [Array.getD_eq_getD_getElem?,Array.getElem?_append]
    rw [e]
    exact .d _ _ (.yl _)
  | succ t =>
    cases ht:(caps.map AV.d)[t]? with
    | none=>rw [List.getElem?_cons_succ,ht];exact .un _
    | some x =>
      rw [List.getElem?_cons_succ,ht]
      rw [List.getElem?_map,Option.map_eq_some_iff] at ht
      obtain ⟨d,hd,rfl⟩:=ht
      have hlt:t<cvs.size:=by rw [hsz];exact (List.getElem?_eq_some_iff.1 hd).1
      have e:((#[Value.func (.yield z.l) #[] #[]]++cvs)++Array.replicate (fn.ntmps-(#[Value.func (.yield z.l) #[] #[]]++cvs).size) undef).getD (t+1) undef=cvs.getD t undef:=by
       have h1:t+1<1+cvs.size:=by omega
       simp [Array.getD_eq_getD_getElem?,Array.getElem?_append,h1,hlt]
      rw [e]
      exact .d _ _ ((hcv t d hd).mono (fun _ _ _=>rfl) (fun b _=>hown b))
 have hrun:=h z hz B ⟨rfl,rfl,rfl⟩ [] (fun _=>none) { tmps:=(#[Value.func (.yield z.l) #[] #[]]++cvs)++Array.replicate (fn.ntmps-(#[Value.func (.yield z.l) #[] #[]]++cvs).size) undef,defers:=[] } z.w rfl
  ⟨rfl,z.C0,fun _=>False,z.w,rfl,rfl,hJ,fun _=>Iff.rfl,fun _=>Iff.rfl,fun b hb=>hb.elim,Nat.le_refl _⟩ hsim
 refine callsIn_of_wp hf hb trivial (wpIn_mono (F:=Fence.wide) hrun fun e a' w' hq=>?_)
 obtain ⟨he,hd,hq⟩:=hq
 have hr:(results fn a'.tmps).run P w'=.ok (.tuple #[]) w':=by
  simp [results,hres]
 rcases he with rfl | rfl
 ·exact ⟨hd,_,hr,⟨_,rfl⟩,hq⟩
 ·exact ⟨hd,_,hr,⟨_,rfl⟩,hq⟩
end
attribute [go_sem] wg DK ry pU sZ tM Cl xM
end Go.Ab

namespace Go.Ab
structure BExt (B0 B:Base):Prop where
 n:B.n=B0.n
 io:B.io=B0.io
 G:B.G=B0.G
 U0:B.U0=B0.U0
 β0:B.β0=B0.β0
 size:B0.H0.size≤B.H0.size
 frame:∀ b,b<B0.H0.size→¬ B0.O0 b→B.H0[b]?=B0.H0[b]?
 O0:∀ b,b<B0.H0.size→B.O0 b→B0.O0 b
 A:∀ b,B0.A b→B.A b
theorem BExt.refl (B:Base):BExt B B:=⟨rfl,rfl,rfl,rfl,rfl,Nat.le_refl _,fun _ _ _=>rfl,fun _ _ h=>h,fun _ h=>h⟩
theorem BExt.trans {A B C:Base} (h:BExt A B) (g:BExt B C):BExt A C :=
 ⟨g.n.trans h.n,g.io.trans h.io,g.G.trans h.G,g.U0.trans h.U0,g.β0.trans h.β0,Nat.le_trans h.size g.size,
  fun b hb ho=>(g.frame b (Nat.lt_of_lt_of_le hb h.size) (fun hc=>ho (h.O0 b hb hc))).trans (h.frame b hb ho),fun b hb hc=>h.O0 b hb (g.O0 b (Nat.lt_of_lt_of_le hb h.size) hc),fun b hb=>g.A b (h.A b hb)⟩
def mkD (D:Nat):Deferred:={ target:=.collected D,args:=#[] }
structure CI (B0:Base) (B:Base) (ds:List Deferred):Prop where
 ext:BExt B0 B
 mark:∃ Ds:List Nat,ds=Ds.map mkD∧Ds.Nodup∧∀ D∈Ds,B.H0[D]?=some (.deferred (some []))∧B.A D∧B0.H0.size≤D∧¬ B.O0 D
def St.fra (s:St) (fr:Nat→AV):St:={ s with fr:=fr }
def LK (s0 s:St):Prop:=∀ p o',nm s0.used p→s.hp p=some o'→∃ o,s0.hp p=some o∧o.like o'
def og (s:St):List Nat→List D→St
 | t::ts,d::ds=>og (s.put t (.d d)) ts ds
 | _,_=>s
section
variable {P:Program} {cf:Cf}
theorem Sim.og {B:Base} {β:Name→Option Blk} {w:World}:∀ (ts:List Nat) (ds:List D) (vs:List Value) (s:St) (tm:Array Value),Sim B β s tm w→(∀ t∈ts,t<B.n)→vs.length=ds.length →
  (∀ i d,ds[i]?=some d→Rep w.heap (s.own B.A β) (vs.getD i undef) d)→Sim B β (og s ts ds) ((ts.zip vs).foldl (fun tm (q:Nat × Value)=>tm.setIfInBounds q.1 q.2) tm) w
 | [],ds,vs,s,tm,h,_,_,_=>by cases ds<;>exact h
 | _::_,[],[],s,tm,h,_,_,_=>h
 | t::ts,d::ds,v::vs,s,tm,h,ht,hl,hv=>by
   refine Sim.og ts ds vs (s.put t (.d d)) _ (h.put (ht t List.mem_cons_self) (.d _ _ (hv 0 d rfl))) (fun x hx=>ht x (List.mem_cons_of_mem _ hx)) (by simpa using hl) (fun i d' hi=>?_)
   exact hv (i+1) d' hi
def rq (P:Program) (cf:Cf) (Φ:Exit→Act→World→Prop) (B0:Base) (k:List It) {X:Type} (Iv:X→St) (s0:St) (e:Exit) (s2:St):Prop :=
 match e with
 | .normal=>LK s0 s2∧∃ y τ,Le cf.U τ (s2.fra s0.fr) (Iv y)
 | .exit i=>LK s0 s2∧yq P cf Φ (CI B0) k (.exit i) (s2.fra s0.fr)
 | .ret=>LK s0 s2∧yq P cf Φ (CI B0) k .ret (s2.fra s0.fr)
 | _=>False
def SS (B:Base) (tm:Array Value) (D L:Nat) (C X:Nat→Prop) (W:World) (s:St):Prop :=
 ∃ β B',BExt B B'∧B'.H0=W.heap∧(∀ b,B'.O0 b↔bx s β b)∧(∀ b,B'.A b↔(B.A b∨X b∨b=D∨b=L))∧(∀ b,C b↔(B.A b∨b=D∨b=L∨bx s β b))∧Sim B' β s tm W
theorem SS.stp {B:Base} {tm:Array Value} {D L z0:Nat} {C X X':Nat→Prop} {W W':World} {s:St} (h:SS B tm D L C X W s) (hst:Stp W X W' X') (hX:∀ b,X b→z0≤b) (hz:B.H0.size≤z0) (hW:z0≤W.heap.size) (hD:D<W.heap.size) (hL:L<W.heap.size) :
  SS B tm D L C X' W' s:=by
 obtain ⟨β,B',hE,hH,hO,hA,hC,hs⟩:=h
 have hlt:∀ b,B.A b→b<W.heap.size:=fun b hb=>Nat.lt_of_lt_of_le (B.hA b hb) (by rw [← hH];exact hE.size)
 have hsame:∀ b,b<B.H0.size→W'.heap[b]?=W.heap[b]?:=fun b hb=>hst.same b (by omega) (fun hx=>by have:=hX b hx;omega)
 have hG:∀ q∈B'.G,W'.heap[q.1]?=some q.2∧¬ bx s β q.1:=fun q hq=>by
  have h0:=B.hG q (by rw [← hE.G];exact hq)
  have h1:=B'.hG q hq
  exact ⟨(hsame _ (ah h0.1)).trans (by rw [← hH];exact h1.1),fun hb=>h1.2 ((hO _).2 hb)⟩
 refine ⟨β,{ n:=B'.n,io:=B'.io,G:=B'.G,H0:=W'.heap,O0:=bx s β,A:=fun b=>B.A b∨X' b∨b=D∨b=L,U0:=B'.U0,β0:=B'.β0,hA:=?_,hG:=hG },?_,rfl,fun _=>Iff.rfl,fun _=>Iff.rfl,hC,?_⟩
 ·rintro b (hb | hb | rfl | rfl)
  ·exact Nat.lt_of_lt_of_le (hlt b hb) hst.size
  ·exact (hst.new b hb).2
  ·exact Nat.lt_of_lt_of_le hD hst.size
  ·exact Nat.lt_of_lt_of_le hL hst.size
 ·refine ⟨hE.n,hE.io,hE.G,hE.U0,hE.β0,Nat.le_trans hE.size (by rw [hH];exact hst.size),fun b hb ho=>?_,fun b hb ho=>hE.O0 b hb ((hO b).2 ho),fun b hb=>.inl hb⟩
  exact (hsame b hb).trans ((by rw [hH]:W.heap[b]?=B'.H0[b]?).trans (hE.frame b hb ho))
 ·refine hs.mv rfl (hst.io.trans hs.io) (Nat.le_refl _) (fun _ _ _=>rfl) hst.size (fun b hb hn=>hst.same b hb (fun hx=>hn ((hA b).2 (.inr (.inl hx))))) (fun b hb hc=>?_) (fun p k hp hk=>.inr ⟨p,k,hp,hk,rfl⟩) hs.us hs.stay
  rcases hc with hc | hc | hc | hc
  ·exact (hA b).2 (.inl hc)
  ·rcases (hst.new b hc).1 with h1 | h1
   ·exact (hA b).2 (.inr (.inl h1))
   ·omega
  ·exact (hA b).2 (.inr (.inr (.inl hc)))
  ·exact (hA b).2 (.inr (.inr (.inr hc)))
theorem SS.after {B B':Base} {tm:Array Value} {D L:Nat} {X:Nat→Prop} {W W2 W3 W4:World} {s0 s1 s2:St} {β' β1 β2:Name→Option Blk} {tm2:Array Value} {B2:Base}
  (hE:BExt B B') (hH:B'.H0=W.heap) (hO:∀ b,B'.O0 b↔bx s0 β' b) (hA:∀ b,B'.A b↔(B.A b∨X b∨b=D∨b=L)) (hs:Sim B' β' s0 tm W)
  (hn2:B2.n=B'.n) (hio2:B2.io=B'.io) (hG2:B2.G=B'.G) (hH2:B2.H0=W2.heap) (hO2:∀ b,B2.O0 b↔bx s1 β1 b) (hA2:B2.A=B'.A) (hU2:B2.U0=s0.used) (hβ2:B2.β0=β')
  (hsz:W.heap.size≤W2.heap.size) (h12:∀ b,b<W.heap.size→¬ bx s0 β' b→b≠L→W2.heap[b]?=W.heap[b]?) (hown1:∀ b,bx s1 β1 b→W.heap.size≤b∨bx s0 β' b)
  (hs2:Sim B2 β2 s2 tm2 W3) (hlk:LK s0 s2) (hLz:B.H0.size≤L) (h34:W3.heap.size=W4.heap.size) (hio4:wio W4=wio W3) (h4:∀ b,b≠L→W4.heap[b]?=W3.heap[b]?) :
  (∀ b,b<W.heap.size→¬ bx s0 β' b→b≠L→W4.heap[b]?=W.heap[b]?)∧W.heap.size≤W4.heap.size∧(∀ b,bx s2 β2 b→(W.heap.size≤b∨bx s0 β' b)∧b<W4.heap.size∧¬ B'.A b) ∧
   ∃ B4,BExt B B4∧B4.H0=W4.heap∧(∀ b,B4.O0 b↔bx s2 β2 b)∧(∀ b,B4.A b↔(B.A b∨X b∨b=D∨b=L))∧Sim B4 β2 (s2.fra s0.fr) tm W4:=by
 have hown2:∀ b,bx s2 β2 b→W.heap.size≤b∨bx s0 β' b:=fun b hb=>by
  rcases (hs2.ct hb).2.2 with h | h
  ·rw [hH2] at h;exact .inl (Nat.le_trans hsz h)
  ·exact hown1 b ((hO2 b).1 h)
 have hz3:W2.heap.size≤W3.heap.size:=by have:=hs2.size;rw [hH2] at this;exact this
 have hsame:∀ b,b<W.heap.size→¬ bx s0 β' b→b≠L→W4.heap[b]?=W.heap[b]?:=fun b hb hnb hne=>by
  have h1:¬ bx s1 β1 b:=fun h=>by
   rcases hown1 b h with h | h
   ·omega
   ·exact hnb h
  refine (h4 b hne).trans ((hs2.frame b (by rw [hH2];omega) (fun h=>h1 ((hO2 b).1 h))).trans ?_)
  rw [hH2];exact h12 b hb hnb hne
 have hsz4:W.heap.size≤W4.heap.size:=by omega
 have hG4:∀ q∈B'.G,W4.heap[q.1]?=some q.2∧¬ bx s2 β2 q.1:=fun q hq=>by
  obtain ⟨g1,g2⟩:=B'.hG q hq
  have hlt:=ah g1
  have hlt':q.1<W.heap.size:=by rw [← hH];exact hlt
  have hq2:=B2.hG q (by rw [hG2];exact hq)
  have hno:¬ bx s2 β2 q.1:=fun hb=>by
   rcases hown2 _ hb with h | h
   ·omega
   ·exact g2 ((hO _).2 h)
  refine ⟨?_,hno⟩
  have h3:W3.heap[q.1]?=some q.2:=(hs2.frame _ (ah hq2.1) hq2.2).trans hq2.1
  have hb0:=ah (B.hG q (by rw [← hE.G];exact hq)).1
  exact (h4 _ (by omega)).trans h3
 have hltA:∀ b,B'.A b→b<W4.heap.size:=fun b hb=>Nat.lt_of_lt_of_le (B'.hA b hb) (by rw [hH];exact hsz4)
 refine ⟨hsame,hsz4,fun b hb=>⟨hown2 b hb,by have:=(hs2.ct hb).1;omega,by have:=(hs2.ct hb).2.1;rw [hA2] at this;exact this⟩,?_⟩
 let B4:Base:={ n:=B'.n,io:=B'.io,G:=B'.G,H0:=W4.heap,O0:=bx s2 β2,A:=B'.A,U0:=B'.U0,β0:=B'.β0,hA:=hltA,hG:=hG4 }
 have hu:∀ x∈s0.used,x∈s2.used:=fun x hx=>hs2.us x (by rw [hU2];exact hx)
 have hst:∀ p,nm s0.used p→β2 p=β' p:=fun p hp=>by rw [← hβ2];exact hs2.stay p (by rw [hU2];exact hp)
 have hs4:Sim B4 β2 s2 tm2 W4:=by
  refine hs2.mv hn2.symm (hio4.trans (hs2.io.trans hio2)) (Nat.le_refl _) (fun _ _ _=>rfl) (by omega) (fun b hb hn=>h4 b (fun e=>hn (by rw [hA2,hA];exact .inr (.inr (.inr e))))) (fun b _ hb=>by rw [hA2];exact hb) (fun p k hp hk=>.inr ⟨p,k,hp,hk,rfl⟩) (fun x hx=>hu x (hs.us x hx)) (fun p hp=>?_)
  have:nm s0.used p:=hp.mono hs.us
  exact (hst p this).trans (hs.stay p hp)
 have hown:∀ b,b<W.heap.size→s2.own B'.A β2 b→s0.own B'.A β' b:=by
  rintro b hb (h1 | h1)
  ·exact .inl h1
  ·rcases hown2 b h1 with h | h
   ·omega
   ·exact .inr h
 have hr:∀ v d,Rep W.heap (s0.own B'.A β') v d→Rep W4.heap (s2.own B'.A β2) v d:=fun v d hd=>hd.mono (fun b hb hlt=>hsame b hlt (fun h=>hb (.inr h)) (fun e=>hb (.inl ((hA b).2 (.inr (.inr (.inr e))))))) hown
 refine ⟨B4,⟨hE.n,hE.io,hE.G,hE.U0,hE.β0,Nat.le_trans hE.size (by rw [hH];exact hsz4),fun b hb ho=>?_,fun b hb ho=>?_,fun b hb=>(hA b).2 (.inl hb)⟩,rfl,fun _=>Iff.rfl,hA,?_⟩
 ·have hbW:b<W.heap.size:=by have:=hE.size;rw [hH] at this;omega
  refine (hsame b hbW (fun h=>ho (hE.O0 b hb ((hO b).2 h))) (by omega)).trans ?_
  rw [← hE.frame b hb ho,hH]
 ·rcases hown2 b ho with h | h
  ·have:=hE.size;rw [hH] at this;omega
  ·exact hE.O0 b hb ((hO b).2 h)
 ·exact { hs4 with tms:=hs.tms,slots:=fun t=>(hs.slots t).mono hr hu (fun p hp o' ho=>by obtain ⟨o,h1,h2⟩:=hlk p o' hp ho;exact ⟨o,h1,h2,hst p hp⟩) }
theorem SS.mk' {B B4:Base} {tm:Array Value} {D L:Nat} {X:Nat→Prop} {W4:World} {s5:St} {β5:Name→Option Blk} (hE:BExt B B4) (hH:B4.H0=W4.heap) (hsub:∀ b,bx s5 β5 b→B4.O0 b) (hA:∀ b,B4.A b↔(B.A b∨X b∨b=D∨b=L))
  (hs:Sim B4 β5 s5 tm W4):SS B tm D L (fun b=>B.A b∨b=D∨b=L∨bx s5 β5 b) X W4 s5:=by
 refine ⟨β5,{ n:=B4.n,io:=B4.io,G:=B4.G,H0:=W4.heap,O0:=bx s5 β5,A:=B4.A,U0:=B4.U0,β0:=B4.β0,hA:=fun b hb=>by rw [← hH];exact B4.hA b hb,hG:=fun q hq=>⟨by rw [← hH];exact (B4.hG q hq).1,fun hb=>(B4.hG q hq).2 (hsub _ hb)⟩ },
  ⟨hE.n,hE.io,hE.G,hE.U0,hE.β0,by show B.H0.size≤W4.heap.size;rw [← hH];exact hE.size,fun b hb ho=>?_,fun b hb ho=>hE.O0 b hb (hsub b ho),hE.A⟩,rfl,fun _=>Iff.rfl,hA,fun _=>Iff.rfl,?_⟩
 ·show W4.heap[b]?=_
  rw [← hH];exact hE.frame b hb ho
 ·exact hs.mv rfl hs.io (Nat.le_refl _) (fun _ _ _=>rfl) (Nat.le_refl _) (fun _ _ _=>rfl) (fun _ _ h=>h) (fun p k hp hk=>.inr ⟨p,k,hp,hk,rfl⟩) hs.us hs.stay
def vJ (P:Program) (cf:Cf) (Φ:Exit→Act→World→Prop) (B0:Base) (k:List It) (c:Code) (s:St):Prop :=
 (∃ i,c=.exit i∧yq P cf Φ (CI B0) k (.exit i) s)∨(c=.ret∧yq P cf Φ (CI B0) k .ret s)
theorem w7 (ps:List Nat) (vs tm:Array Value):(ps.toArray.zip vs).foldl (fun tmps (q:Nat × Value)=>tmps.setIfInBounds q.1 q.2) tm=(ps.zip vs.toList).foldl (fun tm (q:Nat × Value)=>tm.setIfInBounds q.1 q.2) tm:=by
 rw [← Array.foldl_toList,Array.toList_zip]
theorem zX {n0:Nat} {G0:List (Nat × Obj)} {U0:List Nat} {B0 B:Base} {ps:List Nat} {assign body:Code} {k:List It} {Φ:Exit→Act→World→Prop} {X:Type} {s0:St} {Iv:X→St} {fn:FuncId} {tm:Array Value} {D L:Nat} {C Xs:Nat→Prop} {W:World} {vs:Array Value}
  {xl:List Ab.D} (hB:(⟨n0,none,G0,U0⟩:Cf).fits B) (hps:∀ t∈ps,t<n0) (hxl:xl.length=ps.length)
  (hr:run P ⟨n0,some L,G0,s0.used⟩ [.code assign] (fun e s1=>e=.normal∧run P ⟨n0,some L,G0,s0.used⟩ [.code body] (rq P ⟨n0,none,G0,U0⟩ Φ B0 k Iv s0) s1) (Ab.og s0 ps xl))
  (hL:W.heap[L]?=some (.loop { state:=.ready,pending:=none,fn,tmps:=tm,params:=ps.toArray,assign,body,defers:=D })) (hDL:D≠L) (hLz:B.H0.size≤L) (hDz:B.H0.size≤D) (hD:W.heap[D]?=some (.deferred (some [])))
  (hS:SS B tm D L C Xs W s0) (hvs:vs.size=xl.length) (hrep:∀ i d,xl[i]?=some d→Rep W.heap (fun b=>C b∨Xs b) (vs.getD i undef) d) :
  YieldAt Fence.wide 0 P L vs W fun e W'=>∃ C',(wio W'=wio W∧W.heap.size≤W'.heap.size∧(∀ b,b<W.heap.size→¬ C b→W'.heap[b]?=W.heap[b]?)∧(∀ q∈G0,W'.heap[q.1]?=W.heap[q.1]?)∧∀ b,C' b→(C b∨W.heap.size≤b)∧b<W'.heap.size)∧W'.heap[D]?=some (.deferred (some [])) ∧
   ((e=.returned (.bool true)∧W'.heap[L]?=some (.loop { state:=.ready,pending:=none,fn,tmps:=tm,params:=ps.toArray,assign,body,defers:=D })∧∃ y,SS B tm D L C' Xs W' (Iv y)) ∨
    (e=.returned (.bool false)∧∃ c s',W'.heap[L]?=some (.loop { state:=.done,pending:=some c,fn,tmps:=tm,params:=ps.toArray,assign,body,defers:=D })∧vJ P ⟨n0,none,G0,U0⟩ Φ B0 k c s'∧SS B tm D L C' Xs W' s')):=by
 obtain ⟨β',B',hE,hH,hO,hA,hC,hsx⟩:=hS
 have hLlt:=ah hL
 have hDlt:=ah hD
 refine ⟨fn,_,assign,body,run_yield hL (by simp [hvs,hxl]),roundIn_of_wpIn trivial ?_⟩
 rw [w7]
 have hGn:∀ q∈B'.G,W.heap[q.1]?=some q.2∧¬ bx s0 β' q.1:=fun q hq=>⟨by rw [← hH];exact (B'.hG q hq).1,fun hb=>(B'.hG q hq).2 ((hO _).2 hb)⟩
 let Br1:Base:={ n:=B'.n,io:=B'.io,G:=B'.G,H0:=W.heap,O0:=bx s0 β',A:=B'.A,U0:=s0.used,β0:=β',hA:=fun b hb=>by rw [← hH];exact B'.hA b hb,hG:=hGn }
 have hs1:Sim Br1 β' s0 tm W:=hsx.mv rfl hsx.io (Nat.le_refl _) (fun _ _ _=>rfl) (Nat.le_refl _) (fun _ _ _=>rfl) (fun _ _ h=>h) (fun p k hp hk=>.inr ⟨p,k,hp,hk,rfl⟩) (fun _ h=>h) (fun _ _=>rfl)
 have hn1:B'.n=n0:=hE.n.trans hB.1
 have hG1:B'.G=G0:=hE.G.trans hB.2.2
 have hs1':=hs1.og ps xl vs.toList s0 tm (fun t ht=>by show t<B'.n;rw [hn1];exact hps t ht) (by simpa using hvs) (fun i d hi=>by
  have:=hrep i d hi
  rw [show vs.toList.getD i undef=vs.getD i undef by simp [Array.getD_eq_getD_getElem?,List.getD_eq_getElem?_getD]]
  refine this.mono (fun _ _ _=>rfl) (fun b _ hb=>?_)
  rcases hb with hb | hb
  ·rcases (hA b).1 hb with h | h | h | h
   ·exact .inl ((hC b).2 (.inl h))
   ·exact .inr h
   ·exact .inl ((hC b).2 (.inr (.inl h)))
   ·exact .inl ((hC b).2 (.inr (.inr (.inl h))))
  ·exact .inl ((hC b).2 (.inr (.inr (.inr hb)))))
 have hrunA:=aP hr Br1 ⟨hn1,rfl,hG1⟩ [] β' { tmps:=(ps.zip vs.toList).foldl (fun tm (q:Nat × Value)=>tm.setIfInBounds q.1 q.2) tm,defers:=[] } W rfl hs1'
 refine wpIn_mono hrunA ?_
 rintro e a1 W1 ⟨hd1,s1,β1,⟨rfl,hrun⟩,hsA⟩
 have hnA:∀ b,B'.A b→¬ bx s0 β' b:=fun b hb ho=>(hsx.ct ho).2.1 hb
 have hAL:B'.A L:=(hA L).2 (.inr (.inr (.inr rfl)))
 have hAD:B'.A D:=(hA D).2 (.inr (.inr (.inl rfl)))
 have hL1:=(hsA.frame L hLlt (hnA L hAL)).trans hL
 have hD1:=(hsA.frame D hDlt (hnA D hAD)).trans hD
 refine ⟨_,run_beginRound hL1 rfl,?_⟩
 obtain ⟨W2,hW2⟩:∃ W2,W1.putObj L (.loop { state:=.busy,pending:=none,fn,tmps:=tm,params:=ps.toArray,assign,body,defers:=D })=W2:=⟨_,rfl⟩
 show body.wpIn _ _ _ _ _ (W1.putObj L (.loop { state:=.busy,pending:=none,fn,tmps:=tm,params:=ps.toArray,assign,body,defers:=D }))
 rw [hW2]
 have hz12:W2.heap.size=W1.heap.size:=by rw [← hW2];simp
 have hzW1:W.heap.size≤W1.heap.size:=hsA.size
 have h12:∀ b,b≠L→W2.heap[b]?=W1.heap[b]?:=fun b hb=>by rw [← hW2];exact World.putObj_heap_other hb
 have hL2:W2.heap[L]?=some (.loop { state:=.busy,pending:=none,fn,tmps:=tm,params:=ps.toArray,assign,body,defers:=D }):=by rw [← hW2];exact World.putObj_heap_same (by omega)
 have hD2:=(h12 D hDL).trans hD1
 have hio2:wio W2=wio W1:=by rw [← hW2];rfl
 have hqlt:∀ q∈B'.G,q.1<B.H0.size:=fun q hq=>ah (B.hG q (by rw [← hE.G];exact hq)).1
 have hGB:∀ q∈B'.G,W2.heap[q.1]?=some q.2∧¬ bx s1 β1 q.1:=fun q hq=>by
  have h0:=hqlt q hq
  have h1:=hGn q hq
  refine ⟨(h12 _ (by omega)).trans ((hsA.frame _ (ah h1.1) h1.2).trans h1.1),fun hb=>?_⟩
  rcases (hsA.ct hb).2.2 with h | h
  ·have:=ah h1.1
   change W.heap.size≤_ at h
   omega
  ·exact h1.2 h
 let Br2:Base:={ n:=B'.n,io:=B'.io,G:=B'.G,H0:=W2.heap,O0:=bx s1 β1,A:=B'.A,U0:=s0.used,β0:=β',hA:=fun b hb=>by have:=B'.hA b hb;rw [hH] at this;omega,hG:=hGB }
 have hsB:Sim Br2 β1 s1 a1.tmps W2:=hsA.mv rfl (hio2.trans hsA.io) (Nat.le_refl _) (fun _ _ _=>rfl) (by omega) (fun b hb hn=>h12 b (fun e=>hn (e ▸ hAL))) (fun _ _ h=>h) (fun p k hp hk=>.inr ⟨p,k,hp,hk,rfl⟩) hsA.us hsA.stay
 have hrunB:=aP hrun Br2 ⟨hn1,rfl,hG1⟩ [] β1 a1 W2 hd1 hsB
 refine wpIn_mono hrunB ?_
 rintro e a3 W3 ⟨hd3,s2,β2,hq,hs3⟩
 have hL3:=(hs3.frame L (ah hL2) (fun ho=>(hsA.ct ho).2.1 hAL)).trans hL2
 have hD3:=(hs3.frame D (ah hD2) (fun ho=>(hsA.ct ho).2.1 hAD)).trans hD2
 have hLlt3:=ah hL3
 have hrest:∀ (W4:World),LK s0 s2→W3.heap.size=W4.heap.size→wio W4=wio W3→(∀ b,b≠L→W4.heap[b]?=W3.heap[b]?) →
   (W4.heap[D]?=some (.deferred (some []))∧∃ B4,BExt B B4∧B4.H0=W4.heap∧(∀ b,B4.O0 b↔bx s2 β2 b)∧(∀ b,B4.A b↔(B.A b∨Xs b∨b=D∨b=L))∧Sim B4 β2 (s2.fra s0.fr) tm W4) ∧
    ∀ C':Nat→Prop,(∀ b,C' b→B.A b∨b=D∨b=L∨bx s2 β2 b)→(wio W4=wio W∧W.heap.size≤W4.heap.size∧(∀ b,b<W.heap.size→¬ C b→W4.heap[b]?=W.heap[b]?)∧(∀ q∈G0,W4.heap[q.1]?=W.heap[q.1]?)∧∀ b,C' b→(C b∨W.heap.size≤b)∧b<W4.heap.size):=by
  intro W4 hlk h34 hio4 h4
  obtain ⟨g1,g2,g3,B4,g4,g5,g6,g7,g8⟩:=SS.after (B2:=Br2) (W2:=W2) hE hH hO hA hsx rfl rfl rfl rfl (fun _=>Iff.rfl) rfl rfl rfl (by omega) (fun b hb hnb hne=>(h12 b hne).trans (hsA.frame b hb hnb)) (fun b hb=>(hsA.ct hb).2.2) hs3 hlk hLz h34 hio4 h4
  refine ⟨⟨(h4 D hDL).trans hD3,B4,g4,g5,g6,g7,g8⟩,fun C' hC'=>⟨hio4.trans (hs3.io.trans hsx.io.symm),g2,fun b hb hn=>g1 b hb (fun h=>hn ((hC b).2 (.inr (.inr (.inr h))))) (fun h=>hn ((hC b).2 (.inr (.inr (.inl h))))),fun q hq=>?_,fun b hb=>?_⟩⟩
  ·have hq':q∈B'.G:=by rw [hG1];exact hq
   have h0:=hqlt q hq'
   exact g1 _ (ah (hGn q hq').1) (hGn q hq').2 (by omega)
  ·have hBA:∀ b,B.A b→b<W4.heap.size:=fun b hb=>by have:=B.hA b hb;have:=hE.size;rw [hH] at this;omega
   rcases hC' b hb with h | rfl | rfl | h
   ·exact ⟨.inl ((hC b).2 (.inl h)),hBA b h⟩
   ·exact ⟨.inl ((hC _).2 (.inr (.inl rfl))),by omega⟩
   ·exact ⟨.inl ((hC _).2 (.inr (.inr (.inl rfl)))),by omega⟩
   ·obtain ⟨h1,h2,_⟩:=g3 b h
    refine ⟨?_,h2⟩
    rcases h1 with h1 | h1
    ·exact .inr h1
    ·exact .inl ((hC b).2 (.inr (.inr (.inr h1))))
 have hjump:∀ (c:Code),LK s0 s2→vJ P ⟨n0,none,G0,U0⟩ Φ B0 k c (s2.fra s0.fr)→∃ v W4,(Instr.endRound L (some c)).run P W3=.ok v W4∧∃ C',(wio W4=wio W∧W.heap.size≤W4.heap.size∧(∀ b,b<W.heap.size→¬ C b→W4.heap[b]?=W.heap[b]?)∧(∀ q∈G0,W4.heap[q.1]?=W.heap[q.1]?)∧∀ b,C' b→(C b∨W.heap.size≤b)∧b<W4.heap.size)∧W4.heap[D]?=some (.deferred (some [])) ∧
   ((Ending.returned v=.returned (.bool true)∧W4.heap[L]?=some (.loop { state:=.ready,pending:=none,fn,tmps:=tm,params:=ps.toArray,assign,body,defers:=D })∧∃ y,SS B tm D L C' Xs W4 (Iv y)) ∨
    (Ending.returned v=.returned (.bool false)∧∃ c s',W4.heap[L]?=some (.loop { state:=.done,pending:=some c,fn,tmps:=tm,params:=ps.toArray,assign,body,defers:=D })∧vJ P ⟨n0,none,G0,U0⟩ Φ B0 k c s'∧SS B tm D L C' Xs W4 s')):=by
  intro c hlk hj
  obtain ⟨⟨r1,B4,r2,r3,r4,r5,r6⟩,r7⟩:=hrest (W3.putObj L (.loop { state:=.done,pending:=some c,fn,tmps:=tm,params:=ps.toArray,assign,body,defers:=D })) hlk (by simp) rfl (fun b hb=>World.putObj_heap_other hb)
  exact ⟨_,_,run_endRound (some c) hL3,_,r7 _ (fun b hb=>hb),r1,.inr ⟨rfl,c,_,World.putObj_heap_same hLlt3,hj,SS.mk' (s5:=s2.fra s0.fr) (β5:=β2) r2 r3 (fun b hb=>(r4 b).2 hb) r5 r6⟩⟩
 cases e with
 | normal =>
   obtain ⟨hlk,y,τ,hle⟩:=hq
   obtain ⟨⟨r1,B4,r2,r3,r4,r5,r6⟩,r7⟩:=hrest (W3.putObj L (.loop { state:=.ready,pending:=none,fn,tmps:=tm,params:=ps.toArray,assign,body,defers:=D })) hlk (by simp) rfl (fun b hb=>World.putObj_heap_other hb)
   obtain ⟨β5,hs5,hβ5⟩:=r6.le (τ:=τ) (by rw [r2.U0,hB.2.1];exact hle)
   have hsub:∀ b,bx (Iv y) β5 b→bx s2 β2 b:=by
    rintro b ⟨p,k,hp,hk,rfl⟩
    cases ho:(Iv y).hp p with
    | none=>exact absurd ho hp
    | some o =>
      refine ⟨τ p,k,?_,by rw [← hβ5 p hp];exact hk,rfl⟩
      have:=(hle.hp p o ho).1
      intro h
      have h':(s2.fra s0.fr).hp (τ p)=none:=h
      rw [h'] at this;cases this
   exact ⟨_,_,run_endRound none hL3,_,r7 (fun b=>B.A b∨b=D∨b=L∨bx (Iv y) β5 b) (fun b hb=>Or.imp id (Or.imp id (Or.imp id (hsub b))) hb),r1,.inl ⟨rfl,World.putObj_heap_same hLlt3,y,SS.mk' r2 r3 (fun b hb=>(r4 b).2 (hsub b hb)) r5 hs5⟩⟩
 | exit i=>exact hjump (.exit i) hq.1 (.inl ⟨i,rfl,hq.2⟩)
 | ret=>exact hjump .ret hq.1 (.inr ⟨rfl,hq.2⟩)
 | goto l=>exact hq.elim
 | panic c=>exact hq.elim
 | outgrown=>exact hq.elim
end
end Go.Ab

