/-
  Types as data; a type of not too many nodes. (with the parts that follow it)
-/
import Derived.Test.YthfodompfpdmgaaGreatDoorSOD
set_option linter.all false
namespace Go.Proofs.YthfodompfpdmgaaGreatDoor
open Go.Ab
abbrev Fld:=List UInt8 × Int
structure TN where
 k:Int
 a:Int
 b:Int
 l:List Fld
def aG (f:Fld):D:=.agg [.str f.1,i64 f.2]
def bP (l:List Fld):D:=.sl (some 2) (l.map aG)
def ah (n:TN):D:=.agg [i64 n.k,i64 n.a,i64 n.b,bP n.l]
def uk:List TN→D
 | []=>.nils
 | n::r=>.sl (some 4) ((n::r).map ah)
def cC (ns:List TN) (root:Int):D:=.agg [uk ns,i64 root]
def HV (F:D) (l:List Fld):Prop:=(F=.nils∧l=[])∨F=bP l
def Ft (x:D) (n:TN):Prop:=∃ F,x=.agg [i64 n.k,i64 n.a,i64 n.b,F]∧HV F n.l
def lB:List D→List TN→Prop
 | [],[]=>True
 | x::xs,n::ns=>Ft x n∧lB xs ns
 | _,_=>False
def HT (L:D) (ns:List TN):Prop:=(L=.nils∧ns=[])∨∃ xs,L=.sl (some 4) xs∧lB xs ns
theorem lB.len:∀ {xs:List D} {ns:List TN},lB xs ns→xs.length=ns.length
 | [],[],_=>rfl
 | _::_,_::_,h=>by simp [lB.len h.2]
 | [],_::_,h=>h.elim
 | _::_,[],h=>h.elim
theorem lB.get:∀ {xs:List D} {ns:List TN},lB xs ns→∀ (i:Nat) (h:i<ns.length),Ft (xs.getD i .nilp) ns[i]
 | [],[],_,i,h=>by simp at h
 | _::_,_::_,h,0,_=>h.1
 | x::xs,n::ns,h,i+1,hi=>by
   have:=lB.get h.2 i (by simpa using hi)
   simpa using this
 | [],_::_,h,_,_=>h.elim
 | _::_,[],h,_,_=>h.elim
def bK (n:TN):TN:={ n with l:=n.l.take 40 }
def dh (len most:Nat):Nat:=if 2000<len then min len (max most 2001) else min len most
def dp (ns:List TN) (most:Nat):List TN:=(ns.take (dh ns.length most)).map bK
def ly (ns:List TN) (root:Int):Nat→List (Name × Ob)
 | 0=>[([4],.box [.d .nils,.d (i64 0)]),([5],.box [.d .nils,.d (i64 root)])]
 | i+1=>[([4],.box [.d .nils,.d (i64 0)]),([5],.box [.vw [99] 0 (i+1),.d (i64 root)]),([99],.arr (some 4) ((ns.take (i+1)).map fun n=>ah (bK n)))]
theorem C4 {i len most:Nat}:i<dh len most↔i<len∧(i<most∨(2000<len∧i≤2000)):=by
 unfold dh
 split<;>omega
theorem lV {ns:List TN} {i:Nat} (h:i<ns.length):(List.map (fun n=>ah (bK n)) (List.take i ns))++[ah (bK ns[i])]=List.map (fun n=>ah (bK n)) (List.take (i+1) ns):=by
 rw [List.take_succ_eq_append_getElem h,List.map_append]
 rfl
theorem jX {ns:List TN} {i most:Nat} (h1:i≤dh ns.length most) (h2:¬ i<dh ns.length most):(ns.take i).map bK=dp ns most:=by
 unfold dp
 rw [show i=dh ns.length most by omega]
theorem je {ns:List TN} {i:Nat} (h:i<ns.length):uk ((ns.take (i+1)).map bK)=.sl (some 4) ((ns.take (i+1)).map fun n=>ah (bK n)):=by
 cases ns with
 | nil=>simp at h
 | cons n r=>simp [uk,Function.comp_def]
theorem Ba {G} (xs:List D) (ns:List TN) (root:Int) (most:Nat) (hr:lB xs ns) (hn:ns.length≤9223372036854775807) (hm:most≤1000):HP Tryz.prog G 6 [.agg [.sl (some 4) xs,i64 root],i64 most] (fun r=>r=.d (cC (dp ns most) root)):=by
 refine aP Tryz.func6 rfl (by decide +kernel) (by simp [Tryz.ntmps6]) (veil fun E=>?_)
 simp only [go_sem]
 refine bL E [2] (.agg [.sl (some 4) xs,i64 root]) rfl rfl ?_
 simp only [go_sem]
 refine au E (X:={ i:Nat // i≤dh ns.length most }) (fun x=>[(1,.d (i64 most)),(2,.d (.ptr (.agg [.sl (some 4) xs,i64 root]))),(4,.bx [4] 0),(5,.bx [5] 0),(6,.d (i64 x.1))]) (fun x=>ly ns root x.1) [4,5,99] (fun x=>dh ns.length most-x.1) ⟨0,Nat.zero_le _⟩ id ?_ ?_
 ·simp only [ly]
  simp only [go_sem]
  all_goals rfl
 rintro ⟨i,hi⟩ E'
 have hlt:=C4 (i:=i) (len:=ns.length) (most:=most)
 have hlen:=hr.len
 cases i with
 | zero =>
   simp only [ly]
   simp only [go_sem]
   refine aC E' (fun h1=>?_) (fun h1=>?_)<;>simp only [go_sem]
   ·refine aC E' (fun h2=>?_) (fun h2=>?_)<;>simp only [go_sem]
    ·have hil:0<ns.length:=by omega
     refine ⟨by omega,?_⟩
     obtain ⟨F,hx,hF⟩:=hr.get (0) hil
     rw [hx]
     simp only [go_sem]
     have hap:=lV hil
     simp only [Nat.zero_add] at hap
     rcases hF with ⟨rfl,hF⟩ | rfl
     ·have hc:bK ns[0]={ k:=ns[0].k,a:=ns[0].a,b:=ns[0].b,l:=[] }:=by simp [bK,hF]
      simp only [go_sem]
      refine lk E' [46] (some 2) [] rfl ?_
      simp only [go_sem]
      refine ⟨⟨1,by omega⟩,by show dh ns.length most-1<_;omega,tau [([99],[52])],?_⟩
      simp only [ly]
      simp only [go_sem]
      refine ⟨by rw [ab ⟨by omega,by omega⟩],?_⟩
      rw [← hap,hc]
      rfl
     ·have hc:bK ns[0]={ k:=ns[0].k,a:=ns[0].a,b:=ns[0].b,l:=ns[0].l.take 40 }:=rfl
      unfold bP
      simp only [go_sem]
      rw [lJ aG 40 (by decide)]
      refine ⟨pU 40 _ (by decide) (by omega),by simp only [List.length_map,List.length_take];omega,?_⟩
      refine lk E' [46] (some 2) ((ns[0].l.take 40).map aG) rfl ?_
      simp only [go_sem]
      refine ⟨⟨1,by omega⟩,by show dh ns.length most-1<_;omega,tau [([99],[52])],?_⟩
      simp only [ly]
      simp only [go_sem]
      refine ⟨by rw [ab ⟨by omega,by omega⟩],?_⟩
      rw [← hap,hc]
      rfl
    ·refine aC E' (fun h3=>?_) (fun h3=>?_)<;>simp only [go_sem]
     ·have hil:0<ns.length:=by omega
      refine ⟨by omega,?_⟩
      obtain ⟨F,hx,hF⟩:=hr.get (0) hil
      rw [hx]
      simp only [go_sem]
      have hap:=lV hil
      simp only [Nat.zero_add] at hap
      rcases hF with ⟨rfl,hF⟩ | rfl
      ·have hc:bK ns[0]={ k:=ns[0].k,a:=ns[0].a,b:=ns[0].b,l:=[] }:=by simp [bK,hF]
       simp only [go_sem]
       refine lk E' [46] (some 2) [] rfl ?_
       simp only [go_sem]
       refine ⟨⟨1,by omega⟩,by show dh ns.length most-1<_;omega,tau [([99],[52])],?_⟩
       simp only [ly]
       simp only [go_sem]
       refine ⟨by rw [ab ⟨by omega,by omega⟩],?_⟩
       rw [← hap,hc]
       rfl
      ·have hc:bK ns[0]={ k:=ns[0].k,a:=ns[0].a,b:=ns[0].b,l:=ns[0].l.take 40 }:=rfl
       unfold bP
       simp only [go_sem]
       rw [lJ aG 40 (by decide)]
       refine ⟨pU 40 _ (by decide) (by omega),by simp only [List.length_map,List.length_take];omega,?_⟩
       refine lk E' [46] (some 2) ((ns[0].l.take 40).map aG) rfl ?_
       simp only [go_sem]
       refine ⟨⟨1,by omega⟩,by show dh ns.length most-1<_;omega,tau [([99],[52])],?_⟩
       simp only [ly]
       simp only [go_sem]
       refine ⟨by rw [ab ⟨by omega,by omega⟩],?_⟩
       rw [← hap,hc]
       rfl
     ·refine ⟨[],?_⟩
      simp only [go_sem]
      rw [← jX hi (by omega)]
      rfl
   ·refine ⟨[],?_⟩
    simp only [go_sem]
    rw [← jX hi (by omega)]
    rfl
 | succ i =>
   simp only [ly]
   simp only [go_sem]
   refine aC E' (fun h1=>?_) (fun h1=>?_)<;>simp only [go_sem]
   ·refine aC E' (fun h2=>?_) (fun h2=>?_)<;>simp only [go_sem]
    ·have hil:i+1<ns.length:=by omega
     refine ⟨by omega,?_⟩
     obtain ⟨F,hx,hF⟩:=hr.get (i+1) hil
     rw [hx]
     simp only [go_sem]
     have hap:=lV hil
     rcases hF with ⟨rfl,hF⟩ | rfl
     ·have hc:bK ns[i+1]={ k:=ns[i+1].k,a:=ns[i+1].a,b:=ns[i+1].b,l:=[] }:=by simp [bK,hF]
      simp only [go_sem]
      refine lk E' [46] (some 2) [] rfl ?_
      simp only [go_sem]
      refine ⟨by omega,⟨i+1+1,by omega⟩,by show dh ns.length most-(i+1+1)<_;omega,tau [([99],[52])],?_⟩
      simp only [ly]
      simp only [go_sem]
      refine ⟨by rw [ab ⟨by omega,by omega⟩];rfl,?_⟩
      rw [List.take_of_length_le (by simp;omega),← hap,hc]
      rfl
     ·have hc:bK ns[i+1]={ k:=ns[i+1].k,a:=ns[i+1].a,b:=ns[i+1].b,l:=ns[i+1].l.take 40 }:=rfl
      unfold bP
      simp only [go_sem]
      rw [lJ aG 40 (by decide)]
      refine ⟨pU 40 _ (by decide) (by omega),by simp only [List.length_map,List.length_take];omega,?_⟩
      refine lk E' [46] (some 2) ((ns[i+1].l.take 40).map aG) rfl ?_
      simp only [go_sem]
      refine ⟨by omega,⟨i+1+1,by omega⟩,by show dh ns.length most-(i+1+1)<_;omega,tau [([99],[52])],?_⟩
      simp only [ly]
      simp only [go_sem]
      refine ⟨by rw [ab ⟨by omega,by omega⟩];rfl,?_⟩
      rw [List.take_of_length_le (by simp;omega),← hap,hc]
      rfl
    ·refine aC E' (fun h3=>?_) (fun h3=>?_)<;>simp only [go_sem]
     ·refine ai E' (fun h4=>?_) (fun h4=>?_)<;>simp only [go_sem]
      ·have hil:i+1<ns.length:=by omega
       refine ⟨by omega,?_⟩
       obtain ⟨F,hx,hF⟩:=hr.get (i+1) hil
       rw [hx]
       simp only [go_sem]
       have hap:=lV hil
       rcases hF with ⟨rfl,hF⟩ | rfl
       ·have hc:bK ns[i+1]={ k:=ns[i+1].k,a:=ns[i+1].a,b:=ns[i+1].b,l:=[] }:=by simp [bK,hF]
        simp only [go_sem]
        refine lk E' [46] (some 2) [] rfl ?_
        simp only [go_sem]
        refine ⟨by omega,⟨i+1+1,by omega⟩,by show dh ns.length most-(i+1+1)<_;omega,tau [([99],[52])],?_⟩
        simp only [ly]
        simp only [go_sem]
        refine ⟨by rw [ab ⟨by omega,by omega⟩];rfl,?_⟩
        rw [List.take_of_length_le (by simp;omega),← hap,hc]
        rfl
       ·have hc:bK ns[i+1]={ k:=ns[i+1].k,a:=ns[i+1].a,b:=ns[i+1].b,l:=ns[i+1].l.take 40 }:=rfl
        unfold bP
        simp only [go_sem]
        rw [lJ aG 40 (by decide)]
        refine ⟨pU 40 _ (by decide) (by omega),by simp only [List.length_map,List.length_take];omega,?_⟩
        refine lk E' [46] (some 2) ((ns[i+1].l.take 40).map aG) rfl ?_
        simp only [go_sem]
        refine ⟨by omega,⟨i+1+1,by omega⟩,by show dh ns.length most-(i+1+1)<_;omega,tau [([99],[52])],?_⟩
        simp only [ly]
        simp only [go_sem]
        refine ⟨by rw [ab ⟨by omega,by omega⟩];rfl,?_⟩
        rw [List.take_of_length_le (by simp;omega),← hap,hc]
        rfl
      ·refine ⟨[([99],some 4,(ns.take (i+1)).map fun n=>ah (bK n))],?_⟩
       simp only [go_sem]
       rw [← jX hi (by omega)]
       have hil:i<ns.length:=by unfold dh at hi;split at hi<;>omega
       rw [cC,je hil,List.take_of_length_le (by simp;omega)]
     ·refine ⟨[([99],some 4,(ns.take (i+1)).map fun n=>ah (bK n))],?_⟩
      simp only [go_sem]
      rw [← jX hi (by omega)]
      have hil:i<ns.length:=by unfold dh at hi;split at hi<;>omega
      rw [cC,je hil,List.take_of_length_le (by simp;omega)]
   ·refine ⟨[([99],some 4,(ns.take (i+1)).map fun n=>ah (bK n))],?_⟩
    simp only [go_sem]
    rw [← jX hi (by omega)]
    have hil:i<ns.length:=by unfold dh at hi;split at hi<;>omega
    rw [cC,je hil,List.take_of_length_le (by simp;omega)]
end Go.Proofs.YthfodompfpdmgaaGreatDoor

namespace Go.Ab
def Wk (a b:D):Prop:=∀ (H:Array Obj) (own:Nat→Prop) (v:Value),Rep H own v a→Rep H own v b
theorem Wk.refl (a:D):Wk a a:=fun _ _ _ h=>h
theorem Wk.trans {a b c:D} (h:Wk a b) (g:Wk b c):Wk a c:=fun H own v x=>g H own v (h H own v x)
theorem Wk.nils (w:W):Wk .nils (.sl w []):=fun _ _ _ h=>by
 cases h
 exact .sl0 none 0 w
theorem Wk.agg {a0s bs:List D} (hl:a0s.length=bs.length) (hs:∀ b∈bs,b.scal=true) (h:∀ (i:Nat) a b,a0s[i]?=some a→bs[i]?=some b→Wk a b):Wk (.agg a0s) (.agg bs):=fun H own v x=>by
 cases x with
 | agg vs _ h1 _ h3 =>
   refine .agg vs bs (h1.trans hl) hs fun i b hb=>?_
   have:i<a0s.length:=by rw [hl];exact (List.getElem?_eq_some_iff.1 hb).1
   exact h i _ b (List.getElem?_eq_getElem this) hb H own _ (h3 i _ (List.getElem?_eq_getElem this))
theorem Wk.sl {w:W} {a0s bs:List D} (hl:a0s.length=bs.length) (hw:∀ b∈bs,okW w b) (h:∀ (i:Nat) a b,a0s[i]?=some a→bs[i]?=some b→a.cells.length=b.cells.length∧∀ (j:Nat) c d,a.cells[j]?=some c→b.cells[j]?=some d→Wk c d):Wk (.sl w a0s) (.sl w bs):=fun H own v x=>by
 cases x with
 | sl0 a cap _ =>
   have:bs=[]:=List.length_eq_zero_iff.1 hl.symm
   subst this
   exact .sl0 a cap w
 | sl b o cap c e fz _ _ hb hn hcap hz _ hr =>
   rw [hl]
   refine .sl b o cap c e fz w bs hb hn (by omega) (by rw [← hl];exact hz) hw fun i x j d hi hj=>?_
   have hlt:i<a0s.length:=by rw [hl];exact (List.getElem?_eq_some_iff.1 hi).1
   obtain ⟨g1,g2⟩:=h i _ x (List.getElem?_eq_getElem hlt) hi
   have hj2:j<(a0s[i]).cells.length:=by rw [g1];exact (List.getElem?_eq_some_iff.1 hj).1
   exact g2 j _ d (List.getElem?_eq_getElem hj2) hj H own _ (hr i _ j _ (List.getElem?_eq_getElem hlt) (List.getElem?_eq_getElem hj2))
def WkL:List D→List D→Prop
 | [],[]=>True
 | a::a0s,b::bs=>Wk a b∧WkL a0s bs
 | _,_=>False
theorem WkL.get:∀ {a0s bs:List D},WkL a0s bs→a0s.length=bs.length∧∀ (i:Nat) a b,a0s[i]?=some a→bs[i]?=some b→Wk a b
 | [],[],_=>⟨rfl,fun _ _ _ h=>by simp at h⟩
 | _::_,_::_,h=>by
   obtain ⟨g1,g2⟩:=WkL.get h.2
   refine ⟨by simp [g1],fun i a b ha hb=>?_⟩
   cases i with
   | zero=>simp at ha hb;subst ha;subst hb;exact h.1
   | succ i=>exact g2 i a b (by simpa using ha) (by simpa using hb)
 | [],_::_,h=>h.elim
 | _::_,[],h=>h.elim
theorem VR.wk {H:Array Obj} {own:Nat→Prop} {used:List Nat} {hp:Name→Option Ob} {β:Name→Option Blk} {v:Value} {a b:D} (h:Wk a b) (hv:VR H own used hp β v (.d a)):VR H own used hp β v (.d b) :=
 .d _ _ (h _ _ _ hv.toD)
section
variable {P:Program}
theorem Sim.u1 {B:Base} {β:Name→Option Blk} {s s':St} {tm:Array Value} {w:World} (h:Sim B β s tm w) (h1:s'.hp=s.hp) (h2:s'.used=s.used) (h3:∀ t,s'.fr t=s.fr t∨∃ a b,s.fr t=.d a∧s'.fr t=.d b∧Wk a b):Sim B β s' tm w:=by
 obtain ⟨fr,hp,us⟩:=s
 obtain ⟨fr2,hp2,us2⟩:=s'
 simp only at h1 h2 h3
 subst h1;subst h2
 exact { tms:=h.tms,io:=h.io,size:=h.size,frame:=h.frame,slots:=fun t=>(by
  have:=h.slots t
  rcases h3 t with e | ⟨a,b,e1,e2,hw⟩
  ·show VR _ _ _ _ _ _ (fr2 t)
   rw [e];exact this
  ·show VR _ _ _ _ _ _ (fr2 t)
   rw [e2]
   have this:VR _ _ _ _ _ _ (fr t):=this
   rw [e1] at this
   exact this.wk hw),objs:=h.objs,blocks:=h.blocks,inj:=h.inj,us:=h.us,stay:=h.stay }
theorem HP.wk {G:List (Nat × Obj)} {f:FuncId} {a0s bs:List D} {Q:AV→Prop} (h:HP P G f bs Q) (hw:WkL a0s bs):HP P G f a0s Q:=by
 obtain ⟨g1,g2⟩:=hw.get
 refine ⟨h.1,fun B β vs w h1 h2 h3 h4 hs=>h.2 B β vs w (by rw [h1];simp [g1]) h2 h3 h4 (hs.u1 rfl rfl fun t=>?_)⟩
 rw [dP,dP,bE,bE,if_pos (Nat.zero_le _),if_pos (Nat.zero_le _),Nat.sub_zero,List.getElem?_map,List.getElem?_map]
 by_cases ht:t<a0s.length
 ·have ht':t<bs.length:=by omega
  rw [List.getElem?_eq_getElem ht,List.getElem?_eq_getElem ht']
  exact .inr ⟨_,_,rfl,rfl,g2 t _ _ (List.getElem?_eq_getElem ht) (List.getElem?_eq_getElem ht')⟩
 ·rw [List.getElem?_eq_none (by omega),List.getElem?_eq_none (by omega)]
  exact .inl rfl
theorem HP.wkr {G:List (Nat × Obj)} {f:FuncId} {a0s:List D} {Q Q':AV→Prop} (h:HP P G f a0s Q) (hw:∀ r,Q r→∃ a b,r=.d a∧Wk a b∧Q' (.d b)):HP P G f a0s Q':=by
 refine ⟨h.1,fun B β vs w h1 h2 h3 h4 hs=>(h.2 B β vs w h1 h2 h3 h4 hs).mono ?_⟩
 rintro e w' ⟨v,r,hp',u',β',rfl,⟨hQ,hin,rfl⟩,hsim⟩
 obtain ⟨a,b,rfl,hwk,hq⟩:=hw r hQ
 refine ⟨v,.d b,[],u',β',rfl,⟨hq,rfl,rfl⟩,hsim.u1 rfl rfl fun t=>?_⟩
 rw [dP,dP,bB,bB,iJ]
 by_cases ht:t=0
 ·rw [if_pos ht,if_pos ht]
  exact .inr ⟨a,b,rfl,rfl,hwk⟩
 ·rw [if_neg ht,if_neg ht]
  exact .inl rfl
end
theorem Sim.rebox {B:Base} {β:Name→Option Blk} {s:St} {tm:Array Value} {w:World} (h:Sim B β s tm w) {p:Name} {ty:Option Nat} {cs cs':List AV} (hp:s.hp p=some (.boxT ty cs)) (hl:cs'.length=cs.length)
  (hv:∀ (v:Value) (j:Nat) x x',cs[j]?=some x→cs'[j]?=some x'→VR w.heap (s.own B.A β) s.used s.hp β v x→VR w.heap (s.own B.A β) s.used s.hp β v x'):Sim B β (s.set p (some (.boxT ty cs'))) tm w:=by
 have hhq:∀ q,q≠p→(s.set p (some (.boxT ty cs'))).hp q=s.hp q:=fun q h1=>by simp [St.set,ax,h1]
 have hhp:(s.set p (some (.boxT ty cs'))).hp p=some (.boxT ty cs'):=by simp [St.set,ax]
 have hnn:∀ q,(s.set p (some (.boxT ty cs'))).hp q≠none↔s.hp q≠none:=fun q=>by
  by_cases e:q=p
  ·subst e;rw [hhp,hp];simp
  ·rw [hhq q e]
 have hown:(s.set p (some (.boxT ty cs'))).own B.A β=s.own B.A β:=by
  funext b
  refine propext (or_congr_right ⟨?_,?_⟩)
  ·rintro ⟨q,l,hq,hl,rfl⟩;exact ⟨q,l,(hnn q).1 hq,hl,rfl⟩
  ·rintro ⟨q,l,hq,hl,rfl⟩;exact ⟨q,l,(hnn q).2 hq,hl,rfl⟩
 have hst:∀ q,nm s.used q→Stays s.hp (s.set p (some (.boxT ty cs'))).hp β β q:=by
  intro q _ o ho
  by_cases e:q=p
  ·subst e
   rw [hhp] at ho
   cases ho
   exact ⟨_,hp,by simp [Ob.like,hl],rfl⟩
  ·exact ⟨o,by rwa [hhq q e] at ho,Ob.br _,rfl⟩
 refine { tms:=h.tms,io:=h.io,size:=h.size,frame:=h.frame,slots:=fun i=>?_,objs:=?_,blocks:=fun q l hq hl=>h.blocks q l ((hnn q).1 hq) hl,inj:=fun q q' l l' hq hq'=>h.inj q q' l l' ((hnn q).1 hq) ((hnn q').1 hq'),us:=h.us,stay:=h.stay }
 ·rw [hown];exact (h.slots i).mono (fun _ _ h=>h) (fun _ h=>h) hst
 ·intro q o ho
  rw [hown]
  by_cases e:q=p
  ·subst e
   rw [hhp] at ho
   cases ho
   obtain ⟨h1,k,c,e,g1,g2,g3,g4,g5,g6,g7⟩:=h.objs q _ hp
   refine ⟨h1,k,c,e,g1,g2,g3,g4,by rw [g5,hl],g6,fun j x' hx'=>?_⟩
   have hlt:j<cs.length:=by rw [← hl];exact (List.getElem?_eq_some_iff.1 hx').1
   exact (hv _ j _ x' (List.getElem?_eq_getElem hlt) hx' (g7 j _ (List.getElem?_eq_getElem hlt))).mono (fun _ _ h=>h) (fun _ h=>h) hst
  ·rw [hhq q e] at ho
   obtain ⟨h1,h2⟩:=h.objs q o ho
   exact ⟨h1,h2.mono (fun _ _ h=>h) (fun _ h=>h) hst rfl fun _ _=>rfl⟩
theorem jO {H:Array Obj} {own:Nat→Prop} {used:List Nat} {hp:Name→Option Ob} {β:Name→Option Blk} {v:Value} {p:Name} {w:W} (hu:nm used p) (ho:hp p=some (.arr w [])) (h:VR H own used hp β v (.d .nils)):VR H own used hp β v (.vw p 0 0):=by
 have:=h.toD
 cases this
 exact .vw _ _ _ _ hu rfl fun ty' w' xs hx=>by
  rw [ho] at hx
  cases hx
  exact ⟨Nat.le_refl _,none,0,rfl,.inl ⟨rfl,rfl⟩⟩
section
variable {P:Program} {cf:Cf} {Q:Exit→St→Prop} {s:St} {k:List It}
theorem fZ (E:Eng P cf Q) {c:Code} (t n:Nat) (w:W) (ht:s.fr t=.d .nils) (hn:n ∉ s.used) (h:cV E c ((s.add n (.arr w [])).put t (.vw [n] 0 0)) k):cV E c s k:=by
 intro B hB ds β a w' hds hs
 have h1:=hs.eU hn none w
 have h2:=h1.slots t
 rw [show (s.add n (.arr w [])).fr t=.d .nils from ht] at h2
 exact h B hB ds _ a w' hds (h1.setv (jO (w:=w) ⟨n,[],rfl,List.mem_cons_self⟩ (by simp [St.add,ax]) h2))
theorem cR (E:Eng P cf Q) {c:Code} (p:Name) (j n:Nat) (w:W) (cs:List AV) (hp:s.hp p=some (.box cs)) (hj:cs[j]?=some (.d .nils)) (hn:n ∉ s.used) (h:cV E c ((s.add n (.arr w [])).set p (some (.box (cs.set j (.vw [n] 0 0))))) k):cV E c s k:=by
 intro B hB ds β a w' hds hs
 have h1:=hs.eU hn none w
 have hpn:p≠[n]:=eo (hs.objs p _ hp).1 hn
 refine h B hB ds _ a w' hds (h1.rebox (cs:=cs) (by simpa [St.add,ax,hpn] using hp) (by simp) fun v i x x' hx hx' hv=>?_)
 by_cases e:j=i
 ·subst e
  rw [hj] at hx
  cases hx
  rw [List.getElem?_set_self (List.getElem?_eq_some_iff.1 hj).1] at hx'
  cases hx'
  exact jO (w:=w) ⟨n,[],rfl,List.mem_cons_self⟩ (by simp [St.add,ax]) hv
 ·rw [List.getElem?_set_ne e,hx] at hx'
  cases hx'
  exact hv
attribute [go_sem] List.set_cons_zero List.set_cons_succ
end
end Go.Ab
namespace Go.Ab
def gv (c:Bool) (x:AV):AV:=if c=true then x else .tup []
def cb (c w:Bool):Bool:=if w=true then c else !c
theorem H7 (c:Bool):cb c true=c:=rfl
theorem HR (c:Bool):cb c false=!c:=rfl
theorem Ev (x:AV):gv true x=x:=rfl
theorem Cx (x:AV):gv false x=.tup []:=rfl
def pk (c:Bool) (x y:AV):AV:=if c=true then x else y
theorem HY (x y:AV):pk true x y=x:=rfl
theorem Iz (x y:AV):pk false x y=y:=rfl
theorem GS (c b:Bool):pk c (.d (.bool true)) (gv (!c) (.d (.bool b)))=.d (.bool (c || b)):=by cases c<;>rfl
theorem GB (c b:Bool):pk (!c) (.d (.bool true)) (gv c (.d (.bool b)))=.d (.bool (!c || b)):=by cases c<;>rfl
theorem Ez (c b:Bool):pk c (gv c (.d (.bool b))) (.d (.bool false))=.d (.bool (c && b)):=by cases c<;>rfl
attribute [go_sem] Ev Cx H7 HR HY Iz GS GB Ez Bool.not_not Option.bind_some
theorem GA (p:Name) (d:D) (c:Bool) (x:AV):(gv c x).frB p d=gv c (x.frB p d):=by cases c<;>rfl
attribute [go_sem] GA
theorem Hu {c want:Bool} (h:c=want):cb c want=true:=by subst h;cases c<;>rfl
theorem GW {c want:Bool} (h:¬ c=want):cb c want=false:=by cases c<;>cases want<;>first | rfl | exact absurd rfl h
section
variable {P:Program} {cf:Cf} {Q:Exit→St→Prop} {s:St} {k:List It}
theorem eh (E:Eng P cf Q) {t:Nat} {c want:Bool} {all:Array Oper} {r:List Oper} {d:Nat} {op:Op} {ty:TypeId} {ps:String} {af:Array Edge} {g:Option (Nat × Bool)} {x:AV} (hd:d<cf.n)
  (hx:c=want→E.run (.ops all r::k) ((s.put t (.d (.bool want))).put d x)→E.stp { dst:=some d,op:=op,type:=ty,pos:=ps,after:=af,guard:=none } (s.put t (.d (.bool want))) (.ops all r::k) (opR P.ti cf.n op (some d) (s.put t (.d (.bool want)))))
  (h:E.run (.ops all r::k) ((s.put t (.d (.bool c))).put d (gv (cb c want) x))):E.gd want all { dst:=some d,op:=op,type:=ty,pos:=ps,after:=af,guard:=g } r s k (some (t,.d (.bool c))):=by
 by_cases hc:c=want
 ·have h1:=hx hc
  rw [Hu hc,Ev] at h
  subst hc
  have h2:=h1 h
  cases c
  ·rw [u6];exact h2
  ·rw [wq];exact h2
 ·rw [GW hc,Cx] at h
  cases c<;>cases want<;>first
   | exact absurd rfl hc
   | (rw [vg,fK (h:=hd)];exact h)
   | (rw [u7,fK (h:=hd)];exact h)
theorem dt (E:Eng P cf Q) {t:Nat} {c e want:Bool} {all:Array Oper} {r:List Oper} {d:Nat} {op:Op} {ty:TypeId} {ps:String} {af:Array Edge} {g:Option (Nat × Bool)} {x:AV} (hd:d<cf.n) (hs:s.fr t=gv c (.d (.bool e)))
  (hx:c=true→e=want→E.run (.ops all r::k) ((s.put t (.d (.bool want))).put d x)→E.stp { dst:=some d,op:=op,type:=ty,pos:=ps,after:=af,guard:=none } (s.put t (.d (.bool want))) (.ops all r::k) (opR P.ti cf.n op (some d) (s.put t (.d (.bool want)))))
  (h:E.run (.ops all r::k) (s.put d (gv (c && cb e want) x))):E.gd want all { dst:=some d,op:=op,type:=ty,pos:=ps,after:=af,guard:=g } r s k (some (t,gv c (.d (.bool e)))):=by
 by_cases hc:c=true
 ·subst hc
  rw [Ev] at hs ⊢
  refine eh E hd (hx rfl) ?_
  rw [iq hs]
  exact h
 ·have hc:c=false:=by simpa using hc
  subst hc
  rw [Cx]
  rw [Bool.false_and,Cx] at h
  rw [uQ,fK (h:=hd)]
  exact h
theorem mI (E:Eng P cf Q) {x:R St} {o:Oper} {s2:St} (h:x.run (fun s'=>s'=s2) False) (hk:E.run k s2):E.stp o s k x:=by
 induction x with
 | ok a=>rw [nN];obtain rfl:a=s2:=h;exact hk
 | need p r ih=>rw [mQ];exact ⟨h.1,ih h.2⟩
 | no=>exact h.elim
theorem a8 (E:Eng P cf Q) {t:Nat} {c want:Bool} {all:Array Oper} {r:List Oper} {d:Nat} {op:Op} {ty:TypeId} {ps:String} {af:Array Edge} {g:Option (Nat × Bool)} {x:AV} (hd:d<cf.n)
  (hx:c=want→(opR P.ti cf.n op (some d) (s.put t (.d (.bool want)))).run (fun s'=>s'=(s.put t (.d (.bool want))).put d x) False)
  (h:E.run (.ops all r::k) ((s.put t (.d (.bool c))).put d (gv (cb c want) x))):E.gd want all { dst:=some d,op:=op,type:=ty,pos:=ps,after:=af,guard:=g } r s k (some (t,.d (.bool c))) :=
 eh E hd (fun hc hk=>mI E (hx hc) hk) h
theorem aH (E:Eng P cf Q) {t:Nat} {c e want:Bool} {all:Array Oper} {r:List Oper} {d:Nat} {op:Op} {ty:TypeId} {ps:String} {af:Array Edge} {g:Option (Nat × Bool)} {x:AV} (hd:d<cf.n) (hs:s.fr t=gv c (.d (.bool e)))
  (hx:c=true→e=want→(opR P.ti cf.n op (some d) (s.put t (.d (.bool want)))).run (fun s'=>s'=(s.put t (.d (.bool want))).put d x) False)
  (h:E.run (.ops all r::k) (s.put d (gv (c && cb e want) x))):E.gd want all { dst:=some d,op:=op,type:=ty,pos:=ps,after:=af,guard:=g } r s k (some (t,gv c (.d (.bool e)))) :=
 dt E hd hs (fun h1 h2 hk=>mI E (hx h1 h2) hk) h
theorem bj (E:Eng P cf Q) {d:Nat} {n:Nat} {c:Bool} {x y:AV} {o:Oper} (hd:d<n) (h:E.run k (s.put d (pk c x y))):E.stp o s k ((jM (.d (.bool c)) x y).bind (bp n (some d) s)):=by
 cases c<;>(simp only [jM,R.bind,bp,hd,if_true,nN];exact h)
theorem aJ (E:Eng P cf Q) {t:Nat} {c want:Bool} {all:Array Oper} {r:List Oper} {d:Nat} {a b b':Operand} {ty:TypeId} {ps:String} {af:Array Edge} {g:Option (Nat × Bool)} {c2:Bool} {z:AV} (hd:d<cf.n)
  (hx:c=want→ev (s.put t (.d (.bool want))) a=.d (.bool c2)) (hz:c=want→pk c2 (ev (s.put t (.d (.bool want))) b) (ev (s.put t (.d (.bool want))) b')=z)
  (h:E.run (.ops all r::k) ((s.put t (.d (.bool c))).put d (gv (cb c want) z))):E.gd want all { dst:=some d,op:=.pick a b b',type:=ty,pos:=ps,after:=af,guard:=g } r s k (some (t,.d (.bool c))) :=
 eh E hd (fun hc hk=>by
  have e:opR P.ti cf.n (.pick a b b') (some d) (s.put t (.d (.bool want)))=(jM (.d (.bool c2)) (ev (s.put t (.d (.bool want))) b) (ev (s.put t (.d (.bool want))) b')).bind (bp cf.n (some d) (s.put t (.d (.bool want)))):=by
   rw [← hx hc];rfl
  rw [e]
  refine bj E hd ?_
  rw [hz hc]
  exact hk) h
theorem aA (E:Eng P cf Q) {t:Nat} {c e want:Bool} {all:Array Oper} {r:List Oper} {d:Nat} {a b b':Operand} {ty:TypeId} {ps:String} {af:Array Edge} {g:Option (Nat × Bool)} {c2:Bool} {z:AV} (hd:d<cf.n) (hs:s.fr t=gv c (.d (.bool e)))
  (hx:c=true→e=want→ev (s.put t (.d (.bool want))) a=.d (.bool c2)) (hz:c=true→e=want→pk c2 (ev (s.put t (.d (.bool want))) b) (ev (s.put t (.d (.bool want))) b')=z)
  (h:E.run (.ops all r::k) (s.put d (gv (c && cb e want) z))):E.gd want all { dst:=some d,op:=.pick a b b',type:=ty,pos:=ps,after:=af,guard:=g } r s k (some (t,gv c (.d (.bool e)))) :=
 dt E hd hs (fun h1 h2 hk=>by
  have e':opR P.ti cf.n (.pick a b b') (some d) (s.put t (.d (.bool want)))=(jM (.d (.bool c2)) (ev (s.put t (.d (.bool want))) b) (ev (s.put t (.d (.bool want))) b')).bind (bp cf.n (some d) (s.put t (.d (.bool want)))):=by
   rw [← hx h1 h2];rfl
  rw [e']
  refine bj E hd ?_
  rw [hz h1 h2]
  exact hk) h
theorem aR (E:Eng P cf Q) (h:∀ (Q':Exit→St→Prop) (_:Q'=Q) (E':Eng P cf Q'),E'.run k s):E.run k s:=h Q rfl E
theorem Dl (E:Eng P cf Q) {t e:TypeId} {x:Operand} {yt:TypeId} {dst:Nat} {ty:TypeId} {ps:String} {af:Array Edge} {w0:W} {xs:List D} (hk:(P.ti t).k=.slice e) (hd:dst<cf.n) (hx:ev s x=.d (.sl w0 xs))
  (h:∀ b:Bool,(b=true→xs=[])→E.run k (s.put dst (.d (.bool b)))) :
  E.stp { dst:=some dst,op:=.binOp .eql t x (.const (.slice none 0 0)) yt,type:=ty,pos:=ps,after:=af,guard:=none } s k .no :=
 A1 E false hk hd hx h
end
end Go.Ab
namespace Go.Ab
section
variable {P:Program}
theorem HCall.thaw {G:List (Nat × Obj)} {f:FuncId} {args:List AV} {hp:List (Name × Ob)} {u:List Nat} {Q Q':AV→List (Name × Ob)→Prop} (h:HCall P G f args hp u Q) (n:Nat) (w:W) (hn:n ∉ u)
  (hQ:∀ r hp',Q r hp'→Q' r hp'∨(r=.d .nils∧hp'=[]∧Q' (.vw [n] 0 0) [([n],.arr w [])])):HCall P G f args hp u Q':=by
 refine ⟨h.1,fun B β vs W h1 h2 h3 h4 h5=>?_⟩
 refine (h.2 B β vs W h1 h2 h3 h4 h5).mono ?_
 rintro e w' ⟨v,r,hp',u',β',he,hq,hs⟩
 rcases hQ r hp' hq with hq' | ⟨rfl,rfl,hq'⟩
 ·exact ⟨v,r,hp',u',β',he,hq',hs⟩
 ·have hle:Le ({ B with n:=1 }:Base).U0 id (mk [(0,.d .nils)] [] u') (mk [(0,.d .nils)] [] u):=by
   refine LeL.le ?_
   refine ⟨⟨⟨rfl,rfl⟩,trivial⟩,trivial,trivial,?_,trivial⟩
   rw [show ({ B with n:=1 }:Base).U0=u from h3]
   simp
  obtain ⟨β2,hs2,_⟩:=hs.le hle
  have h6:=hs2.eU (t:=n) (by rw [aa];exact hn) none w
  have h7:=h6.slots 0
  rw [show ((mk [(0,AV.d .nils)] [] u).add n (.arr w [])).fr 0=.d .nils from rfl] at h7
  have h8:=h6.setv (jO (p:=[n]) (w:=w) ⟨n,[],rfl,List.mem_cons_self⟩ (by simp [St.add,ax]) h7)
  have e2:((mk [(0,AV.d .nils)] [] u).add n (.arr w [])).put 0 (.vw [n] 0 0)=mk [(0,.vw [n] 0 0)] [([n],.arr w [])] (n::u):=by
   rw [um,tF];rfl
  rw [e2] at h8
  exact ⟨v,_,_,_,_,he,hq',h8⟩
end
end Go.Ab

namespace Go.Proofs.YthfodompfpdmgaaGreatDoor
open Go.Ab
def gl (k:Int):Bool:=(decide (k=6) || decide (k=9)) || decide (k=10)
def gL (k:Int):Bool:=decide (k=7) || decide (k=8)
def fH (k:Int):Bool:=decide (k=9) || decide (k=10)
def ay (n:TN):List Int:=if gl n.k then [n.a,n.b] else if gL n.k then n.l.map (·.2) else []
def jb (s:Int):Int:=if s=1 then 2 else if s=2 then 1 else if s=3 then 3 else 0
def aj (l:List Int):D:=.sl none (l.map i64)
def aF (ns:List TN) (root:Int):D:=.agg [.sl (some 4) (ns.map ah),i64 root]
def WkR (d:D) (r:AV):Prop:=∃ a,r=.d a∧Wk a d
theorem fc {P:Program} {G:List (Nat × Obj)} {f:FuncId} {ds:List D} {d:D} (h:HP P G f ds (WkR d)):HP P G f ds (fun r=>r=.d d) :=
 h.wkr fun _ ⟨a,e,hw⟩=>⟨a,d,e,hw,rfl⟩
theorem vU {G} (k:Int):HP Tryz.prog G 112 [i64 k] (fun r=>r=.d (.bool (gl k))):=by
 refine ao Tryz.func112 rfl (by decide +kernel) (by simp [Tryz.ntmps112]) (veil fun E=>?_)
 simp only [go_sem]
 refine aC E (fun h1=>?_) (fun h1=>?_)<;>simp only [go_sem]
 ·simp [gl,h1]
 refine aC E (fun h2=>?_) (fun h2=>?_)<;>simp only [go_sem]
 ·simp [gl,h1,h2]
 ·simp [gl,h1,h2]
theorem wz {G} (k:Int):HP Tryz.prog G 113 [i64 k] (fun r=>r=.d (.bool (gL k))):=by
 refine ao Tryz.func113 rfl (by decide +kernel) (by simp [Tryz.ntmps113]) (veil fun E=>?_)
 simp only [go_sem]
 refine aC E (fun h1=>?_) (fun h1=>?_)<;>simp only [go_sem]
 ·simp [gL,h1]
 ·simp [gL,h1]
theorem DA {G} (k:Int):HP Tryz.prog G 118 [i64 k] (fun r=>r=.d (.bool (fH k))):=by
 refine ao Tryz.func118 rfl (by decide +kernel) (by simp [Tryz.ntmps118]) (veil fun E=>?_)
 simp only [go_sem]
 refine aC E (fun h1=>?_) (fun h1=>?_)<;>simp only [go_sem]
 ·simp [fH,h1]
 ·simp [fH,h1]
theorem DC {G} (k:Int):HP Tryz.prog G 145 [i64 k] (fun r=>r=.d (i64 (jb k))):=by
 refine ao Tryz.func145 rfl (by decide +kernel) (by simp [Tryz.ntmps145]) (veil fun E=>?_)
 simp only [go_sem]
 refine ai E (fun h1=>?_) (fun h1=>?_)<;>simp only [go_sem]
 ·simp [jb,h1]
 refine ai E (fun h2=>?_) (fun h2=>?_)<;>simp only [go_sem]
 ·simp [jb,h2]
 refine ai E (fun h3=>?_) (fun h3=>?_)<;>simp only [go_sem]
 ·simp [jb,h3]
 ·simp [jb,h1,h2,h3]
theorem mA {l:List Fld} {i:Nat} (h:i<l.length):(l.take i).map (fun f=>i64 f.2)++[i64 l[i].2]=(l.take (i+1)).map fun f=>i64 f.2:=by
 rw [List.take_succ_eq_append_getElem h,List.map_append]
 rfl
theorem qG {G} (n:TN) (hl:n.l.length≤1000000):HP Tryz.prog G 115 [ah n] (fun r=>r=.d (aj (ay n))):=by
 refine fc ?_
 unfold ah bP
 refine aP Tryz.func115 rfl (by decide +kernel) (by simp [Tryz.ntmps115]) (veil fun E=>?_)
 simp only [go_sem]
 refine ae E (vU n.k) rfl rfl (by simp) ?_
 rintro _ rfl
 simp only [go_sem]
 refine aX E (fun hp=>?_) (fun hp=>?_)<;>simp only [go_sem]
 ·refine ⟨[([13],none,[i64 n.a,i64 n.b])],?_⟩
  simp only [go_sem]
  refine ⟨_,rfl,?_⟩
  simp only [aj,ay,hp,if_true,List.map_cons,List.map_nil]
  exact .refl _
 refine ae E (wz n.k) rfl rfl (by simp) ?_
 rintro _ rfl
 simp only [go_sem]
 refine aX E (fun hw=>?_) (fun hw=>?_)<;>simp only [go_sem]
 ·refine bL E [1] (.agg [i64 n.k,i64 n.a,i64 n.b,.sl (some 2) (n.l.map aG)]) rfl rfl ?_
  simp only [go_sem]
  refine fZ E 3 99 none rfl (by rw [aa];decide) ?_
  simp only [go_sem]
  refine au E (X:={ i:Nat // i≤n.l.length }) (fun x=>[(3,.vw [99] 0 x.1),(18,.d (.sl (some 2) (n.l.map aG))),(19,.d (i64 n.l.length)),(20,.d (i64 x.1))]) (fun x=>[([99],.arr none ((n.l.take x.1).map fun f=>i64 f.2))]) [99] (fun x=>n.l.length-x.1) ⟨0,Nat.zero_le _⟩ id ?_ ?_
  ·simp only [go_sem]
   all_goals rfl
  rintro ⟨i,hi⟩ E'
  simp only [go_sem]
  refine ai E' (fun h1=>?_) (fun h1=>?_)<;>simp only [go_sem]
  ·have h1':i<n.l.length:=by omega
   have hx:(n.l.map aG).getD i .nilp=.agg [.str n.l[i].1,i64 n.l[i].2]:=by simp [h1',aG]
   refine ⟨by omega,?_⟩
   rw [hx]
   simp only [go_sem]
   refine ⟨?_,⟨i+1,by omega⟩,by show n.l.length-(i+1)<_;omega,tau [([99],[28])],?_⟩
   ·omega
   simp only [go_sem]
   refine ⟨by rw [ab ⟨by omega,by omega⟩];rfl,?_⟩
   rw [List.take_of_length_le (by simp;omega),← mA h1']
  ·refine ⟨[([99],none,(n.l.take i).map fun f=>i64 f.2)],?_⟩
   simp only [go_sem]
   refine ⟨_,rfl,?_⟩
   have:i=n.l.length:=by omega
   subst this
   simp only [aj,ay,hp,hw,if_true,Bool.false_eq_true,if_false,List.map_map,List.take_length]
   rw [List.take_of_length_le (by simp)]
   exact .refl _
 ·refine ⟨[],?_⟩
  simp only [go_sem]
  refine ⟨_,rfl,?_⟩
  simp only [aj,ay,hp,hw,Bool.false_eq_true,if_false,List.map_nil]
  exact .nils _
end Go.Proofs.YthfodompfpdmgaaGreatDoor

namespace Go.Proofs.YthfodompfpdmgaaGreatDoor
open Go.Ab
theorem aD {l:List Int} {i:Nat} (h:i<l.length):(l.map i64).getD i .nilp=i64 l[i]:=by simp [h]
theorem yM {G} (n:TN) (hl:n.l.length≤1000000):HP Tryz.prog G 55 [ah n] (fun r=>r=.d (aj (ay n))):=by
 unfold ah bP
 refine aP Tryz.func55 rfl (by decide +kernel) (by simp [Tryz.ntmps55]) (veil fun E=>?_)
 simp only [go_sem]
 repeat (first
  | (apply a8 E;(· simp only [go_sem]);(· intro h;(try simp only [bq] at h);simp only [↓h,go_sem];rfl);simp only [go_sem])
  | (apply aJ E;(· simp only [go_sem]);(· intro h;(try simp only [bq] at h);simp only [↓h,go_sem];rfl);(· intro h;(try simp only [bq] at h);simp only [↓h,go_sem];rfl);simp only [go_sem])
  | (apply aH E;(· simp only [go_sem]);(· rfl);(· intro h h';(try simp only [bq] at h h');simp only [↓h,↓h',go_sem];rfl);simp only [go_sem])
  | (apply aA E;(· simp only [go_sem]);(· rfl);(· intro h h';(try simp only [bq] at h h');simp only [↓h,↓h',go_sem];rfl);(· intro h h';(try simp only [bq] at h h');simp only [↓h,↓h',go_sem];rfl);simp only [go_sem])
  | (apply bj E;(· decide);simp only [go_sem]))
 refine aX E (fun hp=>?_) (fun hp=>?_)<;>simp only [go_sem]
 ·refine ⟨[([22],none,[i64 n.a,i64 n.b])],?_⟩
  simp only [go_sem]
  simp [aj,ay,gl,hp]
 repeat (first
  | (apply a8 E;(· simp only [go_sem]);(· intro h;(try simp only [bq] at h);simp only [↓h,go_sem];rfl);simp only [go_sem])
  | (apply aJ E;(· simp only [go_sem]);(· intro h;(try simp only [bq] at h);simp only [↓h,go_sem];rfl);(· intro h;(try simp only [bq] at h);simp only [↓h,go_sem];rfl);simp only [go_sem])
  | (apply aH E;(· simp only [go_sem]);(· rfl);(· intro h h';(try simp only [bq] at h h');simp only [↓h,↓h',go_sem];rfl);simp only [go_sem])
  | (apply aA E;(· simp only [go_sem]);(· rfl);(· intro h h';(try simp only [bq] at h h');simp only [↓h,↓h',go_sem];rfl);(· intro h h';(try simp only [bq] at h h');simp only [↓h,↓h',go_sem];rfl);simp only [go_sem])
  | (apply bj E;(· decide);simp only [go_sem]))
 refine aX E (fun hw=>?_) (fun hw=>?_)<;>simp only [go_sem]
 ·refine bL E [1] (.agg [i64 n.k,i64 n.a,i64 n.b,.sl (some 2) (n.l.map aG)]) rfl rfl ?_
  simp only [go_sem]
  refine au E (X:={ i:Nat // i≤n.l.length }) (fun x=>[(1,.d (.ptr (.agg [i64 n.k,i64 n.a,i64 n.b,.sl (some 2) (n.l.map aG)]))),(3,.vw [99] 0 x.1),(4,.d (i64 x.1))]) (fun x=>[([99],.arr none ((n.l.take x.1).map fun f=>i64 f.2))]) [99] (fun x=>n.l.length-x.1) ⟨0,Nat.zero_le _⟩ (tau [([99],[23])]) ?_ ?_
  ·simp only [go_sem]
   all_goals rfl
  rintro ⟨i,hi⟩ E'
  simp only [go_sem]
  refine ai E' (fun h1=>?_) (fun h1=>?_)<;>simp only [go_sem]
  ·have h1':i<n.l.length:=by omega
   have hx:(n.l.map aG).getD i .nilp=.agg [.str n.l[i].1,i64 n.l[i].2]:=by simp [h1',aG]
   refine ⟨by omega,?_⟩
   rw [hx]
   simp only [go_sem]
   refine ⟨?_,⟨i+1,by omega⟩,by show n.l.length-(i+1)<_;omega,tau [([99],[47])],?_⟩
   ·omega
   simp only [go_sem]
   refine ⟨by rw [ab ⟨by omega,by omega⟩];rfl,?_⟩
   rw [List.take_of_length_le (by simp;omega),← mA h1']
  ·refine ⟨[([99],none,(n.l.take i).map fun f=>i64 f.2)],?_⟩
   simp only [go_sem]
   have:i=n.l.length:=by omega
   subst this
   have hp':gl n.k=false:=hp
   have hw':gL n.k=true:=hw
   simp only [aj,ay,hp',hw',if_true,Bool.false_eq_true,if_false,List.map_map,List.take_length]
   rw [List.take_of_length_le (by simp)]
   rfl
 ·refine ⟨[([23],none,[])],?_⟩
  simp only [go_sem]
  have hp':gl n.k=false:=hp
  have hw':gL n.k=false:=hw
  simp only [aj,ay,hp',hw',Bool.false_eq_true,if_false,List.map_nil,List.take_nil,List.drop_nil]
theorem zq {G} (a b:List Int) (ha:a.length≤1000000):HP Tryz.prog G 20 [aj a,aj b] (fun r=>r=.d (.bool (decide (a=b)))):=by
 unfold aj
 refine ao Tryz.func20 rfl (by decide +kernel) (by simp [Tryz.ntmps20]) (veil fun E=>?_)
 simp only [go_sem]
 refine ai E (fun h0=>?_) (fun h0=>?_)<;>simp only [go_sem]
 ·have:a≠b:=fun e=>h0 (by rw [e])
  simp [this]
 have h0:a.length=b.length:=by omega
 refine bc E (X:={ i:Nat // i≤a.length∧a.take i=b.take i }) (fun x=>[(0,.d (.sl none (a.map i64))),(1,.d (.sl none (b.map i64))),(5,.d (i64 x.1))]) (fun x=>a.length-x.1) rfl ⟨0,Nat.zero_le _,rfl⟩ ?_ ?_
 ·simp only [go_sem]
  all_goals rfl
 rintro ⟨i,hi,hab⟩ E'
 simp only [go_sem]
 refine ai E' (fun h1=>?_) (fun h1=>?_)<;>simp only [go_sem]
 ·have h1':i<a.length:=by omega
  have h2':i<b.length:=by omega
  refine kr mixed (by decide +kernel) E' fun E2=>?_
  simp only [go_sem]
  refine ⟨by omega,?_⟩
  rw [aD h1']
  simp only [go_sem]
  refine ⟨by omega,?_⟩
  rw [aD h2']
  simp only [go_sem]
  refine ai E' (fun h2=>?_) (fun h2=>?_)<;>simp only [go_sem]
  ·have:a≠b:=fun e=>h2 (by subst e;rfl)
   simp [this]
  ·refine ⟨⟨i+1,by omega,?_⟩,by show a.length-(i+1)<_;omega,?_⟩
   ·have h2:a[i]=b[i]:=by simpa using h2
    rw [List.take_succ_eq_append_getElem h1',List.take_succ_eq_append_getElem h2',hab,h2]
   ·rw [ab ⟨by omega,by omega⟩];rfl
 ·have h3:i=a.length:=by omega
  subst h3
  rw [List.take_length,h0,List.take_length] at hab
  simp [hab]
end Go.Proofs.YthfodompfpdmgaaGreatDoor

namespace Go.Proofs.YthfodompfpdmgaaGreatDoor
open Go.Ab
theorem gG {α:Type} {p:α→Bool} {l:List α} {i:Nat} (h:i<l.length) (ha:(l.take i).any p=false) (hp:p l[i]=false):(l.take (i+1)).any p=false:=by
 rw [List.take_succ_eq_append_getElem h,List.any_append,ha,Bool.false_or]
 simp [hp]
theorem DK {G} (l:List Int) (p:Int→Bool) (f:Nat) (caps:List D) (hl:l.length≤1000000) (hc:∀ x∈l,HP Tryz.prog G f (i64 x::caps) (fun r=>r=.d (.bool (p x)))) :
  HP Tryz.prog G 102 [aj l,.clo f caps] (fun r=>∃ z:Int,r=.d (i64 z)∧decide (0≤z)=l.any p):=by
 unfold aj
 have hget:∀ {i:Nat} (h:i<l.length),(l.map i64).getD i .nilp=i64 l[i]:=fun h=>aD h
 refine ao Tryz.func102 rfl (by decide +kernel) (by simp [Tryz.ntmps102]) (veil fun E=>?_)
 simp only [go_sem]
 refine bc E (X:={ i:Nat // i≤l.length∧(l.take i).any p=false }) (fun x=>[(0,.d (.sl none (l.map i64))),(1,.d (.clo f caps)),(6,.d (.sl none (l.map i64))),(7,.d (i64 l.length)),(8,.d (i64 x.1))]) (fun x=>l.length-x.1) rfl ⟨0,Nat.zero_le _,by simp⟩ ?_ ?_
 ·simp only [go_sem]
  all_goals rfl
 rintro ⟨i,hi,hab⟩ E'
 simp only [go_sem]
 refine ai E' (fun h1=>?_) (fun h1=>?_)<;>simp only [go_sem]
 ·have h1':i<l.length:=by omega
  refine ⟨by omega,?_⟩
  rw [hget h1']
  simp only [go_sem]
  refine jZ E' (hc l[i] (List.getElem_mem h1')) rfl rfl (by simp) ?_
  rintro _ rfl
  simp only [go_sem]
  refine aX E' (fun h2=>?_) (fun h2=>?_)<;>simp only [go_sem]
  ·refine ⟨_,rfl,?_⟩
   have:l.any p=true:=List.any_eq_true.2 ⟨l[i],List.getElem_mem h1',h2⟩
   rw [this]
   exact decide_eq_true (Int.natCast_nonneg _)
  ·refine ⟨⟨i+1,by omega,gG h1' hab h2⟩,by show l.length-(i+1)<_;omega,?_⟩
   rw [ab ⟨by omega,by omega⟩];rfl
 ·have h3:i=l.length:=by omega
  subst h3
  rw [List.take_length] at hab
  refine ⟨_,rfl,?_⟩
  rw [hab]
  decide
theorem Au {G} (l:List Int) (p:Int→Bool) (f:Nat) (caps:List D) (hl:l.length≤1000000) (hc:∀ x∈l,HP Tryz.prog G f (i64 x::caps) (fun r=>r=.d (.bool (p x)))) :
  HP Tryz.prog G 66 [aj l,.clo f caps] (fun r=>r=.d (.bool (l.any p))):=by
 refine ao Tryz.func66 rfl (by decide +kernel) (by simp [Tryz.ntmps66]) (veil fun E=>?_)
 simp only [go_sem]
 refine ae E (DK l p f caps hl hc) rfl rfl (by simp) ?_
 rintro _ ⟨z,rfl,hz⟩
 simp only [go_sem]
 rw [hz]
theorem xE {l:List TN} {i:Nat} (h:i<l.length):(l.map ah).getD i .nilp=ah l[i]:=by simp [h]
theorem mJ {l:List TN} {i:Nat} (h:i<l.length):(l.map ah).getD i .nilp=.agg [i64 l[i].k,i64 l[i].a,i64 l[i].b,.sl (some 2) (l[i].l.map aG)]:=xE h
theorem Cr {G} (l:List TN) (p:TN→Bool) (f:Nat) (caps:List D) (hl:l.length≤1000000) (hc:∀ x∈l,HP Tryz.prog G f (ah x::caps) (fun r=>r=.d (.bool (p x)))) :
  HP Tryz.prog G 111 [.sl (some 4) (l.map ah),.clo f caps] (fun r=>∃ z:Int,r=.d (i64 z)∧decide (0≤z)=l.any p):=by
 have hget:∀ {i:Nat} (h:i<l.length),(l.map ah).getD i .nilp=.agg [i64 l[i].k,i64 l[i].a,i64 l[i].b,.sl (some 2) (l[i].l.map aG)]:=fun h=>mJ h
 refine ao Tryz.func111 rfl (by decide +kernel) (by simp [Tryz.ntmps111]) (veil fun E=>?_)
 simp only [go_sem]
 refine bc E (X:={ i:Nat // i≤l.length∧(l.take i).any p=false }) (fun x=>[(0,.d (.sl (some 4) (l.map ah))),(1,.d (.clo f caps)),(6,.d (.sl (some 4) (l.map ah))),(7,.d (i64 l.length)),(8,.d (i64 x.1))]) (fun x=>l.length-x.1) rfl ⟨0,Nat.zero_le _,by simp⟩ ?_ ?_
 ·simp only [go_sem]
  all_goals rfl
 rintro ⟨i,hi,hab⟩ E'
 simp only [go_sem]
 refine ai E' (fun h1=>?_) (fun h1=>?_)<;>simp only [go_sem]
 ·have h1':i<l.length:=by omega
  refine ⟨by omega,?_⟩
  rw [hget h1']
  simp only [go_sem]
  refine jZ E' (hc l[i] (List.getElem_mem h1')) rfl rfl (by simp) ?_
  rintro _ rfl
  simp only [go_sem]
  refine aX E' (fun h2=>?_) (fun h2=>?_)<;>simp only [go_sem]
  ·refine ⟨_,rfl,?_⟩
   have:l.any p=true:=List.any_eq_true.2 ⟨l[i],List.getElem_mem h1',h2⟩
   rw [this]
   exact decide_eq_true (Int.natCast_nonneg _)
  ·refine ⟨⟨i+1,by omega,gG h1' hab h2⟩,by show l.length-(i+1)<_;omega,?_⟩
   rw [ab ⟨by omega,by omega⟩];rfl
 ·have h3:i=l.length:=by omega
  subst h3
  rw [List.take_length] at hab
  refine ⟨_,rfl,?_⟩
  rw [hab]
  decide
theorem EC {G} (l:List TN) (p:TN→Bool) (f:Nat) (caps:List D) (hl:l.length≤1000000) (hc:∀ x∈l,HP Tryz.prog G f (ah x::caps) (fun r=>r=.d (.bool (p x)))) :
  HP Tryz.prog G 78 [.sl (some 4) (l.map ah),.clo f caps] (fun r=>r=.d (.bool (l.any p))):=by
 refine ao Tryz.func78 rfl (by decide +kernel) (by simp [Tryz.ntmps78]) (veil fun E=>?_)
 simp only [go_sem]
 refine ae E (Cr l p f caps hl hc) rfl rfl (by simp) ?_
 rintro _ ⟨z,rfl,hz⟩
 simp only [go_sem]
 rw [hz]
def ga (all x:Int):Bool:=decide (x<0) || decide (all≤x)
theorem Dq {G} (x all:Int):HP Tryz.prog G 116 [i64 x,.ptr (i64 all)] (fun r=>r=.d (.bool (ga all x))):=by
 refine ao Tryz.func116 rfl (by decide +kernel) (by simp [Tryz.ntmps116]) (veil fun E=>?_)
 simp only [go_sem]
 repeat (first
  | (apply a8 E;(· simp only [go_sem]);(· intro h;(try simp only [bq] at h);simp only [↓h,go_sem];rfl);simp only [go_sem])
  | (apply aJ E;(· simp only [go_sem]);(· intro h;(try simp only [bq] at h);simp only [↓h,go_sem];rfl);(· intro h;(try simp only [bq] at h);simp only [↓h,go_sem];rfl);simp only [go_sem])
  | (apply aH E;(· simp only [go_sem]);(· rfl);(· intro h h';(try simp only [bq] at h h');simp only [↓h,↓h',go_sem];rfl);simp only [go_sem])
  | (apply aA E;(· simp only [go_sem]);(· rfl);(· intro h h';(try simp only [bq] at h h');simp only [↓h,↓h',go_sem];rfl);(· intro h h';(try simp only [bq] at h h');simp only [↓h,↓h',go_sem];rfl);simp only [go_sem])
  | (apply bj E;(· decide);simp only [go_sem]))
 rfl
def fnm (l:List Fld) (i:Nat):List UInt8:=(l.getD i ([],0)).1
def lE (k:Int) (s:List UInt8):Bool:=(decide (k=7) && !cE s) || (decide (k=8) && !fG s)
def dQ (l:List Fld) (i:Nat):Bool:=decide (0<i) && !Op.bytesLess (fnm l (i-1)) (fnm l i)
def eV (k:Int) (l:List Fld):Bool:=(List.range l.length).all fun i=>!lE k (fnm l i) && !dQ l i
theorem ju {k:Int} {l:List Fld} {i:Nat} (h:((List.range i).all fun i=>!lE k (fnm l i) && !dQ l i)=true) (h1:lE k (fnm l i)=false) (h2:dQ l i=false):((List.range (i+1)).all fun i=>!lE k (fnm l i) && !dQ l i)=true:=by
 rw [List.range_succ,List.all_append,h]
 simp [h1,h2]
theorem kM {k:Int} {l:List Fld} {i:Nat} (hi:i<l.length) (h:lE k (fnm l i)=true∨dQ l i=true):eV k l=false:=by
 unfold eV
 rw [List.all_eq_false]
 refine ⟨i,List.mem_range.2 hi,?_⟩
 rcases h with h | h<;>simp [h]
theorem ei {l:List Fld} {i:Nat} (h:i<l.length):(l.map aG).getD i .nilp=.agg [.str (fnm l i),i64 l[i].2]:=by simp [h,fnm,aG]
theorem vI {G} (n:TN) (hl:n.l.length≤1000000) (hs:∀ f∈n.l,f.1.length≤9223372036854775807):HP Tryz.prog G 114 [ah n] (fun r=>r=.d (.bool (eV n.k n.l && decide (n.l.length≤30)))):=by
 unfold ah bP
 refine ao Tryz.func114 rfl (by decide +kernel) (by simp [Tryz.ntmps114]) (veil fun E=>?_)
 simp only [go_sem]
 refine bL E [1] (.agg [i64 n.k,i64 n.a,i64 n.b,.sl (some 2) (n.l.map aG)]) rfl rfl ?_
 simp only [go_sem]
 refine bc E (X:={ i:Nat // i≤n.l.length∧((List.range i).all fun i=>!lE n.k (fnm n.l i) && !dQ n.l i)=true }) (fun x=>[(1,.d (.ptr (.agg [i64 n.k,i64 n.a,i64 n.b,.sl (some 2) (n.l.map aG)]))),(6,.d (.sl (some 2) (n.l.map aG))),(7,.d (i64 n.l.length)),(8,.d (i64 x.1))]) (fun x=>n.l.length-x.1) rfl ⟨0,Nat.zero_le _,rfl⟩ ?_ ?_
 ·simp only [go_sem]
  all_goals rfl
 rintro ⟨i,hi,hab⟩ E
 simp only [go_sem]
 refine ai E (fun h1=>?_) (fun h1=>?_)<;>simp only [go_sem]
 ·have h1':i<n.l.length:=by omega
  have hlen:(fnm n.l i).length≤9223372036854775807:=by
   have:=hs n.l[i] (List.getElem_mem h1')
   simp only [fnm,List.getD_eq_getElem?_getD,List.getElem?_eq_getElem h1',Option.getD_some]
   omega
  refine ⟨by omega,?_⟩
  rw [ei h1']
  simp only [go_sem]
  repeat (first
   | (apply a8 E;(· simp only [go_sem]);(· intro h;(try simp only [bq] at h);simp only [↓h,go_sem];rfl);simp only [go_sem])
   | (apply aJ E;(· simp only [go_sem]);(· intro h;(try simp only [bq] at h);simp only [↓h,go_sem];rfl);(· intro h;(try simp only [bq] at h);simp only [↓h,go_sem];rfl);simp only [go_sem])
   | (apply aH E;(· simp only [go_sem]);(· rfl);(· intro h h';(try simp only [bq] at h h');simp only [↓h,↓h',go_sem];rfl);simp only [go_sem])
   | (apply aA E;(· simp only [go_sem]);(· rfl);(· intro h h';(try simp only [bq] at h h');simp only [↓h,↓h',go_sem];rfl);(· intro h h';(try simp only [bq] at h h');simp only [↓h,↓h',go_sem];rfl);simp only [go_sem])
   | (apply bj E;(· decide);simp only [go_sem]))
  (first | (apply eh E;(· simp only [go_sem]);(· intro h hk;(try simp only [bq] at h);refine ae E (uM (fnm n.l i) hlen) rfl (by simp only [↓h,go_sem]<;>rfl) (by simp) ?_;rintro _ rfl;exact hk);simp only [go_sem]) | (apply dt E;(· simp only [go_sem]);(· rfl);(· intro h h' hk;(try simp only [bq] at h h');refine ae E (uM (fnm n.l i) hlen) rfl (by simp only [↓h,↓h',go_sem]<;>rfl) (by simp) ?_;rintro _ rfl;exact hk);simp only [go_sem]))
  repeat (first
   | (apply a8 E;(· simp only [go_sem]);(· intro h;(try simp only [bq] at h);simp only [↓h,go_sem];rfl);simp only [go_sem])
   | (apply aJ E;(· simp only [go_sem]);(· intro h;(try simp only [bq] at h);simp only [↓h,go_sem];rfl);(· intro h;(try simp only [bq] at h);simp only [↓h,go_sem];rfl);simp only [go_sem])
   | (apply aH E;(· simp only [go_sem]);(· rfl);(· intro h h';(try simp only [bq] at h h');simp only [↓h,↓h',go_sem];rfl);simp only [go_sem])
   | (apply aA E;(· simp only [go_sem]);(· rfl);(· intro h h';(try simp only [bq] at h h');simp only [↓h,↓h',go_sem];rfl);(· intro h h';(try simp only [bq] at h h');simp only [↓h,↓h',go_sem];rfl);simp only [go_sem])
   | (apply bj E;(· decide);simp only [go_sem]))
  (first | (apply eh E;(· simp only [go_sem]);(· intro h hk;(try simp only [bq] at h);refine ae E (uj (fnm n.l i) hlen) rfl (by simp only [↓h,go_sem]<;>rfl) (by simp) ?_;rintro _ rfl;exact hk);simp only [go_sem]) | (apply dt E;(· simp only [go_sem]);(· rfl);(· intro h h' hk;(try simp only [bq] at h h');refine ae E (uj (fnm n.l i) hlen) rfl (by simp only [↓h,↓h',go_sem]<;>rfl) (by simp) ?_;rintro _ rfl;exact hk);simp only [go_sem]))
  repeat (first
   | (apply a8 E;(· simp only [go_sem]);(· intro h;(try simp only [bq] at h);simp only [↓h,go_sem];rfl);simp only [go_sem])
   | (apply aJ E;(· simp only [go_sem]);(· intro h;(try simp only [bq] at h);simp only [↓h,go_sem];rfl);(· intro h;(try simp only [bq] at h);simp only [↓h,go_sem];rfl);simp only [go_sem])
   | (apply aH E;(· simp only [go_sem]);(· rfl);(· intro h h';(try simp only [bq] at h h');simp only [↓h,↓h',go_sem];rfl);simp only [go_sem])
   | (apply aA E;(· simp only [go_sem]);(· rfl);(· intro h h';(try simp only [bq] at h h');simp only [↓h,↓h',go_sem];rfl);(· intro h h';(try simp only [bq] at h h');simp only [↓h,↓h',go_sem];rfl);simp only [go_sem])
   | (apply bj E;(· decide);simp only [go_sem]))
  refine aX E (fun h2=>?_) (fun h2=>?_)<;>simp only [go_sem]
  ·rw [kM h1' (.inl h2),Bool.false_and]
  refine kr mixed (by decide +kernel) E fun E2=>?_
  simp only [go_sem]
  refine FV E2 (fun h3=>?_) (fun h3=>?_)<;>simp only [go_sem]
  ·have hw:w64 ((i:Int)-1)=((i-1:Nat):Int):=by rw [ab ⟨by omega,by omega⟩];omega
   have h4:i-1<n.l.length:=by omega
   rw [hw]
   refine ⟨by omega,?_⟩
   rw [Int.toNat_natCast,ei h4]
   simp only [go_sem]
   refine aX E (fun h5=>?_) (fun h5=>?_)<;>simp only [go_sem]
   ·have:dQ n.l i=true:=by
     have h5:Op.bytesLess (fnm n.l (i-1)) (fnm n.l i)=false:=by simpa using h5
     simp only [dQ,h5,Bool.not_false,Bool.and_true,decide_eq_true_eq]
     omega
    rw [kM h1' (.inr this),Bool.false_and]
   ·refine ⟨⟨i+1,by omega,ju hab h2 ?_⟩,by show n.l.length-(i+1)<_;omega,?_⟩
    ·have h5:Op.bytesLess (fnm n.l (i-1)) (fnm n.l i)=true:=by simpa using h5
     simp only [dQ,h5,Bool.not_true,Bool.and_false]
    ·rw [ab ⟨by omega,by omega⟩];rfl
  ·refine ⟨⟨i+1,by omega,ju hab h2 ?_⟩,by show n.l.length-(i+1)<_;omega,?_⟩
   ·simp only [dQ,Bool.and_eq_false_iff,decide_eq_false_iff_not]
    exact .inl (by omega)
   ·rw [ab ⟨by omega,by omega⟩];rfl
 ·have h3:i=n.l.length:=by omega
  subst h3
  have:eV n.k n.l=true:=hab
  rw [this,Bool.true_and]
  exact congrArg (fun b=>AV.d (.bool b)) (by simp [decide_eq_decide];omega)
def aU (n:TN) (all:Int):Bool:=!(decide (n.k<1) || decide (11<n.k)) && !(!gl n.k && (decide (¬ n.b=0) || decide (¬ n.k=11) && decide (¬ n.a=0))) && !(decide (n.k=11) && (decide (n.a<0) || decide (999<n.a))) &&
 !(!gL n.k && decide (0<(n.l.length:Int)) || !(eV n.k n.l && decide (n.l.length≤30))) && !(ay n).any (ga all)
theorem FW {G} (n:TN) (all:Int) (hl:n.l.length≤1000000) (hs:∀ f∈n.l,f.1.length≤9223372036854775807):HP Tryz.prog G 80 [ah n,i64 all] (fun r=>r=.d (.bool (aU n all))):=by
 have hk:(ay n).length≤1000000:=by
  unfold ay
  split
  ·simp
  ·split<;>simp
   omega
 refine ao Tryz.func80 rfl (by decide +kernel) (by simp [Tryz.ntmps80]) (veil fun E=>?_)
 unfold ah bP
 simp only [go_sem]
 repeat (first
  | (apply a8 E;(· simp only [go_sem]);(· intro h;(try simp only [bq] at h);simp only [↓h,go_sem];rfl);simp only [go_sem])
  | (apply aJ E;(· simp only [go_sem]);(· intro h;(try simp only [bq] at h);simp only [↓h,go_sem];rfl);(· intro h;(try simp only [bq] at h);simp only [↓h,go_sem];rfl);simp only [go_sem])
  | (apply aH E;(· simp only [go_sem]);(· rfl);(· intro h h';(try simp only [bq] at h h');simp only [↓h,↓h',go_sem];rfl);simp only [go_sem])
  | (apply aA E;(· simp only [go_sem]);(· rfl);(· intro h h';(try simp only [bq] at h h');simp only [↓h,↓h',go_sem];rfl);(· intro h h';(try simp only [bq] at h h');simp only [↓h,↓h',go_sem];rfl);simp only [go_sem])
  | (apply bj E;(· decide);simp only [go_sem]))
 refine aX E (fun h1=>?_) (fun h1=>?_)<;>simp only [go_sem]
 ·simp only [aU,h1,Bool.not_true,Bool.false_and]
 refine ae E (vU n.k) rfl rfl (by simp) ?_
 rintro _ rfl
 simp only [go_sem]
 repeat (first
  | (apply a8 E;(· simp only [go_sem]);(· intro h;(try simp only [bq] at h);simp only [↓h,go_sem];rfl);simp only [go_sem])
  | (apply aJ E;(· simp only [go_sem]);(· intro h;(try simp only [bq] at h);simp only [↓h,go_sem];rfl);(· intro h;(try simp only [bq] at h);simp only [↓h,go_sem];rfl);simp only [go_sem])
  | (apply aH E;(· simp only [go_sem]);(· rfl);(· intro h h';(try simp only [bq] at h h');simp only [↓h,↓h',go_sem];rfl);simp only [go_sem])
  | (apply aA E;(· simp only [go_sem]);(· rfl);(· intro h h';(try simp only [bq] at h h');simp only [↓h,↓h',go_sem];rfl);(· intro h h';(try simp only [bq] at h h');simp only [↓h,↓h',go_sem];rfl);simp only [go_sem])
  | (apply bj E;(· decide);simp only [go_sem]))
 refine aX E (fun h2=>?_) (fun h2=>?_)<;>simp only [go_sem]
 ·simp only [aU,h2,Bool.not_true,Bool.false_and,Bool.and_false]
 repeat (first
  | (apply a8 E;(· simp only [go_sem]);(· intro h;(try simp only [bq] at h);simp only [↓h,go_sem];rfl);simp only [go_sem])
  | (apply aJ E;(· simp only [go_sem]);(· intro h;(try simp only [bq] at h);simp only [↓h,go_sem];rfl);(· intro h;(try simp only [bq] at h);simp only [↓h,go_sem];rfl);simp only [go_sem])
  | (apply aH E;(· simp only [go_sem]);(· rfl);(· intro h h';(try simp only [bq] at h h');simp only [↓h,↓h',go_sem];rfl);simp only [go_sem])
  | (apply aA E;(· simp only [go_sem]);(· rfl);(· intro h h';(try simp only [bq] at h h');simp only [↓h,↓h',go_sem];rfl);(· intro h h';(try simp only [bq] at h h');simp only [↓h,↓h',go_sem];rfl);simp only [go_sem])
  | (apply bj E;(· decide);simp only [go_sem]))
 refine aX E (fun h3=>?_) (fun h3=>?_)<;>simp only [go_sem]
 ·simp only [aU,h3,Bool.not_true,Bool.false_and,Bool.and_false]
 refine ae E (wz n.k) rfl rfl (by simp) ?_
 rintro _ rfl
 simp only [go_sem]
 repeat (first
  | (apply a8 E;(· simp only [go_sem]);(· intro h;(try simp only [bq] at h);simp only [↓h,go_sem];rfl);simp only [go_sem])
  | (apply aJ E;(· simp only [go_sem]);(· intro h;(try simp only [bq] at h);simp only [↓h,go_sem];rfl);(· intro h;(try simp only [bq] at h);simp only [↓h,go_sem];rfl);simp only [go_sem])
  | (apply aH E;(· simp only [go_sem]);(· rfl);(· intro h h';(try simp only [bq] at h h');simp only [↓h,↓h',go_sem];rfl);simp only [go_sem])
  | (apply aA E;(· simp only [go_sem]);(· rfl);(· intro h h';(try simp only [bq] at h h');simp only [↓h,↓h',go_sem];rfl);(· intro h h';(try simp only [bq] at h h');simp only [↓h,↓h',go_sem];rfl);simp only [go_sem])
  | (apply bj E;(· decide);simp only [go_sem]))
 (first | (apply eh E;(· simp only [go_sem]);(· intro h hk;(try simp only [bq] at h);refine ae E (vI n hl hs) rfl (by simp only [↓h,go_sem]<;>rfl) (by simp) ?_;rintro _ rfl;exact hk);simp only [go_sem]) | (apply dt E;(· simp only [go_sem]);(· rfl);(· intro h h' hk;(try simp only [bq] at h h');refine ae E (vI n hl hs) rfl (by simp only [↓h,↓h',go_sem]<;>rfl) (by simp) ?_;rintro _ rfl;exact hk);simp only [go_sem]))
 repeat (first
  | (apply a8 E;(· simp only [go_sem]);(· intro h;(try simp only [bq] at h);simp only [↓h,go_sem];rfl);simp only [go_sem])
  | (apply aJ E;(· simp only [go_sem]);(· intro h;(try simp only [bq] at h);simp only [↓h,go_sem];rfl);(· intro h;(try simp only [bq] at h);simp only [↓h,go_sem];rfl);simp only [go_sem])
  | (apply aH E;(· simp only [go_sem]);(· rfl);(· intro h h';(try simp only [bq] at h h');simp only [↓h,↓h',go_sem];rfl);simp only [go_sem])
  | (apply aA E;(· simp only [go_sem]);(· rfl);(· intro h h';(try simp only [bq] at h h');simp only [↓h,↓h',go_sem];rfl);(· intro h h';(try simp only [bq] at h h');simp only [↓h,↓h',go_sem];rfl);simp only [go_sem])
  | (apply bj E;(· decide);simp only [go_sem]))
 refine aX E (fun h4=>?_) (fun h4=>?_)<;>simp only [go_sem]
 ·simp only [aU,h4,Bool.not_true,Bool.false_and,Bool.and_false]
 refine ae E (qG n hl) rfl rfl (by simp) ?_
 rintro _ rfl
 simp only [go_sem]
 refine nh E [3] (i64 all) rfl rfl ?_
 simp only [go_sem]
 refine ae E (Au (ay n) (ga all) 116 [.ptr (i64 all)] hk (fun x _=>Dq x all)) rfl rfl (by simp) ?_
 rintro _ rfl
 simp only [go_sem]
 simp only [aU,h1,h2,h3,h4,Bool.not_false,Bool.true_and]
end Go.Proofs.YthfodompfpdmgaaGreatDoor

namespace Go.Proofs.YthfodompfpdmgaaGreatDoor
open Go.Ab
theorem yd {all:Int} {l:List Int} {i:Nat} (h:i<l.length) (ha:(l.take i).any (ga all)=false) (hp:(decide (l[i]<0) || decide (all≤l[i]))=false):(l.take (i+1)).any (ga all)=false:=gG h ha hp
theorem tU {l:List Fld} {i:Nat} (h:i<l.length):(l.map aG).getD i .nilp=.agg [.str (fnm l i),i64 (l.getD i ([],0)).2]:=by simp [h,fnm,aG]
theorem tV:∀ a1 a2 d6 d9 d10 d7 d8 k11 na nb len l30 nm kk x:Bool,(((((a1 || a2) || !(d6 || d9 || d10) && k11 && na) || !(d6 || d9 || d10) && nb) || !(d7 || d8) && len) || l30)=true →
 (!(a1 || a2) && !(!(d6 || d9 || d10) && (nb || k11 && na)) && x && !(!(d7 || d8) && len || !(nm && !l30)) && kk)=true→False:=by decide
theorem xJ:∀ a1 a2 d6 d9 d10 d7 d8 k11 na nb len l30 x:Bool,(((((a1 || a2) || !(d6 || d9 || d10) && k11 && na) || !(d6 || d9 || d10) && nb) || !(d7 || d8) && len) || l30)=false →
 (!(a1 || a2) && !(!(d6 || d9 || d10) && (nb || k11 && na)) && x && !(!(d7 || d8) && len || !(true && !l30)))=x:=by decide
set_option maxHeartbeats 4000000 in
theorem FP {G} (n:TN) (all:Int) (hl:n.l.length≤1000000) (hs:∀ f∈n.l,f.1.length≤9223372036854775807):HP Tryz.prog G 54 [ah n,i64 all] (fun r=>r=.d (.bool (aU n all))):=by
 have hk:(ay n).length≤1000000:=by
  unfold ay
  split
  ·simp
  ·split<;>simp
   omega
 have h30:decide (n.l.length≤30)=!decide (30<(n.l.length:Int)):=by
  rw [← decide_not]
  exact decide_eq_decide.2 (by omega)
 refine ao Tryz.func54 rfl (by decide +kernel) (by simp [Tryz.ntmps54]) (veil fun E=>?_)
 unfold ah bP
 simp only [go_sem]
 repeat (first
  | (apply a8 E;(· simp only [go_sem]);(· intro h;(try simp only [bq] at h);simp only [↓h,go_sem];rfl);simp only [go_sem])
  | (apply aJ E;(· simp only [go_sem]);(· intro h;(try simp only [bq] at h);simp only [↓h,go_sem];rfl);(· intro h;(try simp only [bq] at h);simp only [↓h,go_sem];rfl);simp only [go_sem])
  | (apply aH E;(· simp only [go_sem]);(· rfl);(· intro h h';(try simp only [bq] at h h');simp only [↓h,↓h',go_sem];rfl);simp only [go_sem])
  | (apply aA E;(· simp only [go_sem]);(· rfl);(· intro h h';(try simp only [bq] at h h');simp only [↓h,↓h',go_sem];rfl);(· intro h h';(try simp only [bq] at h h');simp only [↓h,↓h',go_sem];rfl);simp only [go_sem])
  | (apply bj E;(· decide);simp only [go_sem]))
 refine aX E (fun h1=>?_) (fun h1=>?_)<;>simp only [go_sem]
 ·refine congrArg (fun b=>AV.d (.bool b)) ?_
  cases hr:aU n all
  ·rfl
  exfalso
  exact tV _ _ _ _ _ _ _ _ _ _ _ _ _ _ _ h1 (by rw [← hr,aU,h30];rfl)
 repeat (first
  | (apply a8 E;(· simp only [go_sem]);(· intro h;(try simp only [bq] at h);simp only [↓h,go_sem];rfl);simp only [go_sem])
  | (apply aJ E;(· simp only [go_sem]);(· intro h;(try simp only [bq] at h);simp only [↓h,go_sem];rfl);(· intro h;(try simp only [bq] at h);simp only [↓h,go_sem];rfl);simp only [go_sem])
  | (apply aH E;(· simp only [go_sem]);(· rfl);(· intro h h';(try simp only [bq] at h h');simp only [↓h,↓h',go_sem];rfl);simp only [go_sem])
  | (apply aA E;(· simp only [go_sem]);(· rfl);(· intro h h';(try simp only [bq] at h h');simp only [↓h,↓h',go_sem];rfl);(· intro h h';(try simp only [bq] at h h');simp only [↓h,↓h',go_sem];rfl);simp only [go_sem])
  | (apply bj E;(· decide);simp only [go_sem]))
 refine aX E (fun h3=>?_) (fun h3=>?_)<;>simp only [go_sem]
 ·simp only [aU,h3,Bool.not_true,Bool.false_and,Bool.and_false]
 refine bL E [2] (.agg [i64 n.k,i64 n.a,i64 n.b,.sl (some 2) (n.l.map aG)]) rfl rfl ?_
 simp only [go_sem]
 refine bc E (X:={ i:Nat // i≤n.l.length∧((List.range i).all fun i=>!lE n.k (fnm n.l i) && !dQ n.l i)=true }) (fun x=>[(1,.d (i64 all)),(2,.d (.ptr (.agg [i64 n.k,i64 n.a,i64 n.b,.sl (some 2) (n.l.map aG)]))),(7,.d (i64 x.1))]) (fun x=>n.l.length-x.1) rfl ⟨0,Nat.zero_le _,rfl⟩ ?_ ?_
 ·simp only [go_sem]
  all_goals rfl
 rintro ⟨i,hi,hab⟩ E'
 simp only [go_sem]
 refine ai E' (fun h5=>?_) (fun h5=>?_)<;>simp only [go_sem]
 ·have h1':i<n.l.length:=by omega
  have hlen:(fnm n.l i).length≤9223372036854775807:=by
   have:=hs n.l[i] (List.getElem_mem h1')
   simp only [fnm,List.getD_eq_getElem?_getD,List.getElem?_eq_getElem h1',Option.getD_some]
   omega
  refine ⟨by omega,?_⟩
  rw [ei h1']
  simp only [go_sem]
  repeat (first
   | (apply a8 E';(· simp only [go_sem]);(· intro h;(try simp only [bq] at h);simp only [↓h,go_sem];rfl);simp only [go_sem])
   | (apply aJ E';(· simp only [go_sem]);(· intro h;(try simp only [bq] at h);simp only [↓h,go_sem];rfl);(· intro h;(try simp only [bq] at h);simp only [↓h,go_sem];rfl);simp only [go_sem])
   | (apply aH E';(· simp only [go_sem]);(· rfl);(· intro h h';(try simp only [bq] at h h');simp only [↓h,↓h',go_sem];rfl);simp only [go_sem])
   | (apply aA E';(· simp only [go_sem]);(· rfl);(· intro h h';(try simp only [bq] at h h');simp only [↓h,↓h',go_sem];rfl);(· intro h h';(try simp only [bq] at h h');simp only [↓h,↓h',go_sem];rfl);simp only [go_sem])
   | (apply bj E';(· decide);simp only [go_sem]))
  (first | (apply eh E';(· simp only [go_sem]);(· intro h hk;(try simp only [bq] at h);refine ae E' (Bm (fnm n.l i) hlen) rfl (by simp only [↓h,go_sem]<;>rfl) (by simp) ?_;rintro _ rfl;exact hk);simp only [go_sem]) | (apply dt E';(· simp only [go_sem]);(· rfl);(· intro h h' hk;(try simp only [bq] at h h');refine ae E' (Bm (fnm n.l i) hlen) rfl (by simp only [↓h,↓h',go_sem]<;>rfl) (by simp) ?_;rintro _ rfl;exact hk);simp only [go_sem]))
  repeat (first
   | (apply a8 E';(· simp only [go_sem]);(· intro h;(try simp only [bq] at h);simp only [↓h,go_sem];rfl);simp only [go_sem])
   | (apply aJ E';(· simp only [go_sem]);(· intro h;(try simp only [bq] at h);simp only [↓h,go_sem];rfl);(· intro h;(try simp only [bq] at h);simp only [↓h,go_sem];rfl);simp only [go_sem])
   | (apply aH E';(· simp only [go_sem]);(· rfl);(· intro h h';(try simp only [bq] at h h');simp only [↓h,↓h',go_sem];rfl);simp only [go_sem])
   | (apply aA E';(· simp only [go_sem]);(· rfl);(· intro h h';(try simp only [bq] at h h');simp only [↓h,↓h',go_sem];rfl);(· intro h h';(try simp only [bq] at h h');simp only [↓h,↓h',go_sem];rfl);simp only [go_sem])
   | (apply bj E';(· decide);simp only [go_sem]))
  (first | (apply eh E';(· simp only [go_sem]);(· intro h hk;(try simp only [bq] at h);refine ae E' (zA (fnm n.l i) hlen) rfl (by simp only [↓h,go_sem]<;>rfl) (by simp) ?_;rintro _ rfl;exact hk);simp only [go_sem]) | (apply dt E';(· simp only [go_sem]);(· rfl);(· intro h h' hk;(try simp only [bq] at h h');refine ae E' (zA (fnm n.l i) hlen) rfl (by simp only [↓h,↓h',go_sem]<;>rfl) (by simp) ?_;rintro _ rfl;exact hk);simp only [go_sem]))
  repeat (first
   | (apply a8 E';(· simp only [go_sem]);(· intro h;(try simp only [bq] at h);simp only [↓h,go_sem];rfl);simp only [go_sem])
   | (apply aJ E';(· simp only [go_sem]);(· intro h;(try simp only [bq] at h);simp only [↓h,go_sem];rfl);(· intro h;(try simp only [bq] at h);simp only [↓h,go_sem];rfl);simp only [go_sem])
   | (apply aH E';(· simp only [go_sem]);(· rfl);(· intro h h';(try simp only [bq] at h h');simp only [↓h,↓h',go_sem];rfl);simp only [go_sem])
   | (apply aA E';(· simp only [go_sem]);(· rfl);(· intro h h';(try simp only [bq] at h h');simp only [↓h,↓h',go_sem];rfl);(· intro h h';(try simp only [bq] at h h');simp only [↓h,↓h',go_sem];rfl);simp only [go_sem])
   | (apply bj E';(· decide);simp only [go_sem]))
  have hw:0<i→w64 ((i:Int)-1)=((i-1:Nat):Int):=fun h0=>by rw [ab ⟨by omega,by omega⟩];omega
  apply aH E'
  ·simp only [go_sem]
  ·rfl
  ·intro h h'
   (try simp only [bq] at h h')
   simp only [↓h,↓h',go_sem]
   have h0:0<i:=by have:=of_decide_eq_true h';omega
   rw [hw h0,Int.toNat_natCast,tU (show i-1<n.l.length by omega)]
   exact ⟨⟨by omega,by omega⟩,rfl⟩
  simp only [go_sem]
  repeat (first
   | (apply a8 E';(· simp only [go_sem]);(· intro h;(try simp only [bq] at h);simp only [↓h,go_sem];rfl);simp only [go_sem])
   | (apply aJ E';(· simp only [go_sem]);(· intro h;(try simp only [bq] at h);simp only [↓h,go_sem];rfl);(· intro h;(try simp only [bq] at h);simp only [↓h,go_sem];rfl);simp only [go_sem])
   | (apply aH E';(· simp only [go_sem]);(· rfl);(· intro h h';(try simp only [bq] at h h');simp only [↓h,↓h',go_sem];rfl);simp only [go_sem])
   | (apply aA E';(· simp only [go_sem]);(· rfl);(· intro h h';(try simp only [bq] at h h');simp only [↓h,↓h',go_sem];rfl);(· intro h h';(try simp only [bq] at h h');simp only [↓h,↓h',go_sem];rfl);simp only [go_sem])
   | (apply bj E';(· decide);simp only [go_sem]))
  refine aX E' (fun h2=>?_) (fun h2=>?_)<;>simp only [go_sem]
  ·refine congrArg (fun b=>AV.d (.bool b)) ?_
   have:eV n.k n.l=false:=by
    refine kM h1' ?_
    simp only [Bool.or_eq_true] at h2
    rcases h2 with h2 | h2
    ·exact .inl (by simpa [lE] using h2)
    ·exact .inr (by simpa [dQ] using h2)
   simp only [aU,this,Bool.false_and,Bool.not_false,Bool.or_true,Bool.not_true,Bool.and_false]
  ·simp only [Bool.or_eq_false_iff] at h2
   refine ⟨⟨i+1,by omega,ju hab (by simpa [lE] using h2.1) (by simpa [dQ] using h2.2)⟩,by show n.l.length-(i+1)<_;omega,?_⟩
   rw [ab ⟨by omega,by omega⟩];rfl
 ·have h6:i=n.l.length:=by omega
  subst h6
  have hnm:eV n.k n.l=true:=hab
  refine ae E (yM n hl) rfl rfl (by simp) ?_
  rintro _ rfl
  simp only [go_sem]
  refine bc E (X:={ i:Nat // i≤(ay n).length∧((ay n).take i).any (ga all)=false }) (fun x=>[(1,.d (i64 all)),(9,.d (.sl none ((ay n).map i64))),(10,.d (i64 x.1))]) (fun x=>(ay n).length-x.1) rfl ⟨0,Nat.zero_le _,rfl⟩ ?_ ?_
  ·simp only [go_sem]
   all_goals rfl
  rintro ⟨i,hi,hab⟩ E'
  simp only [go_sem]
  refine ai E' (fun h6=>?_) (fun h6=>?_)<;>simp only [go_sem]
  ·have h6':i<(ay n).length:=by omega
   refine ⟨by omega,?_⟩
   rw [aD h6']
   simp only [go_sem]
   repeat (first
    | (apply a8 E';(· simp only [go_sem]);(· intro h;(try simp only [bq] at h);simp only [↓h,go_sem];rfl);simp only [go_sem])
    | (apply aJ E';(· simp only [go_sem]);(· intro h;(try simp only [bq] at h);simp only [↓h,go_sem];rfl);(· intro h;(try simp only [bq] at h);simp only [↓h,go_sem];rfl);simp only [go_sem])
    | (apply aH E';(· simp only [go_sem]);(· rfl);(· intro h h';(try simp only [bq] at h h');simp only [↓h,↓h',go_sem];rfl);simp only [go_sem])
    | (apply aA E';(· simp only [go_sem]);(· rfl);(· intro h h';(try simp only [bq] at h h');simp only [↓h,↓h',go_sem];rfl);(· intro h h';(try simp only [bq] at h h');simp only [↓h,↓h',go_sem];rfl);simp only [go_sem])
    | (apply bj E';(· decide);simp only [go_sem]))
   apply a8 E'
   ·simp only [go_sem]
   ·intro h
    simp only [↓h,go_sem]
    rw [aD h6']
    exact ⟨⟨by omega,by omega⟩,rfl⟩
   simp only [go_sem]
   repeat (first
    | (apply a8 E';(· simp only [go_sem]);(· intro h;(try simp only [bq] at h);simp only [↓h,go_sem];rfl);simp only [go_sem])
    | (apply aJ E';(· simp only [go_sem]);(· intro h;(try simp only [bq] at h);simp only [↓h,go_sem];rfl);(· intro h;(try simp only [bq] at h);simp only [↓h,go_sem];rfl);simp only [go_sem])
    | (apply aH E';(· simp only [go_sem]);(· rfl);(· intro h h';(try simp only [bq] at h h');simp only [↓h,↓h',go_sem];rfl);simp only [go_sem])
    | (apply aA E';(· simp only [go_sem]);(· rfl);(· intro h h';(try simp only [bq] at h h');simp only [↓h,↓h',go_sem];rfl);(· intro h h';(try simp only [bq] at h h');simp only [↓h,↓h',go_sem];rfl);simp only [go_sem])
    | (apply bj E';(· decide);simp only [go_sem]))
   refine aX E' (fun h8=>?_) (fun h8=>?_)<;>simp only [go_sem]
   ·refine congrArg (fun b=>AV.d (.bool b)) ?_
    have:(ay n).any (ga all)=true:=List.any_eq_true.2 ⟨_,List.getElem_mem h6',h8⟩
    simp only [aU,this,Bool.not_true,Bool.and_false]
   ·refine ⟨⟨i+1,by omega,yd h6' hab h8⟩,by show (ay n).length-(i+1)<_;omega,?_⟩
    rw [ab ⟨by omega,by omega⟩];rfl
  ·have h7:i=(ay n).length:=by omega
   subst h7
   rw [List.take_length] at hab
   refine congrArg (fun b=>AV.d (.bool b)) ?_
   rw [aU,hab,hnm,h3,h30,Bool.not_false,Bool.and_true]
   exact (xJ _ _ _ _ _ _ _ _ _ _ _ _ true h1).symm
end Go.Proofs.YthfodompfpdmgaaGreatDoor

namespace Go.Proofs.YthfodompfpdmgaaGreatDoor
open Go.Ab
def nd (ns:List TN) (i:Nat):TN:=ns.getD i ⟨0,0,0,[]⟩
theorem jc {ns:List TN} {i:Nat} (h:i<ns.length):nd ns i=ns[i]:=by simp [nd,h]
theorem bJ {ns:List TN} {i:Nat} (h:i<ns.length):(ns.map ah).getD i .nilp=.agg [i64 (nd ns i).k,i64 (nd ns i).a,i64 (nd ns i).b,.sl (some 2) ((nd ns i).l.map aG)]:=by
 rw [jc h];exact mJ h
def Edg (ns:List TN) (i j:Nat):Prop:=fH (nd ns i).k=true∧(j=(nd ns i).a.toNat∨j=(nd ns i).b.toNat)
inductive Pth (ns:List TN):Nat→Nat→Prop
 | one {i j:Nat} (h:Edg ns i j):Pth ns i j
 | cons {i j k:Nat} (h:Edg ns i j) (t:Pth ns j k):Pth ns i k
theorem Pth.snoc {ns:List TN} {i j k:Nat} (h:Pth ns i j) (e:Edg ns j k):Pth ns i k:=by
 induction h with
 | one h=>exact .cons h (.one e)
 | cons h _ ih=>exact .cons h (ih e)
inductive Ends (ns:List TN):Nat→Prop
 | flat {i:Nat} (h:fH (nd ns i).k=false):Ends ns i
 | both {i:Nat} (ha:Ends ns (nd ns i).a.toNat) (hb:Ends ns (nd ns i).b.toNat):Ends ns i
theorem Ends.no {ns:List TN} {i:Nat} (h:Ends ns i):¬ Pth ns i i:=by
 induction h with
 | flat h =>
   intro p
   have:∀ j k,Pth ns j k→fH (nd ns j).k=true:=fun j k p=>by cases p with
    | one e=>exact e.1
    | cons e _=>exact e.1
   rw [this _ _ p] at h;cases h
 | @both i _ _ iha ihb =>
   have key:∀ x,Edg ns i x→(x=i∨Pth ns x i)→False:=by
    intro x e hx
    have hp:Pth ns x x:=by
     rcases hx with rfl | hx
     ·exact .one e
     ·exact hx.snoc e
    rcases e.2 with rfl | rfl
    ·exact iha hp
    ·exact ihb hp
   intro p
   cases p with
   | one e=>exact key _ e (.inl rfl)
   | cons e t=>exact key _ e (.inr t)
def whites (C:List Int):Nat:=C.countP (· == 0)
structure Col (ns:List TN) (C:List Int):Prop where
 len:C.length=ns.length
 val:∀ j,C.getD j 0=0∨C.getD j 0=1∨C.getD j 0=2
 black:∀ j,C.getD j 0=2→Ends ns j
theorem gO {C:List Int} {i j:Nat} {x:Int} (h:i<C.length):(C.set i x).getD j 0=if j=i then x else C.getD j 0:=by
 simp only [List.getD_eq_getElem?_getD,List.getElem?_set]
 by_cases e:i=j
 ·subst e;simp [h]
 ·simp [e,Ne.symm e]
theorem Col.set {ns:List TN} {C:List Int} (h:Col ns C) {i:Nat} {x:Int} (hi:i<C.length) (hx:x=1∨(x=2∧Ends ns i)):Col ns (C.set i x):=by
 refine ⟨by simpa using h.len,fun j=>?_,fun j=>?_⟩
 ·rw [gO hi]
  split
  ·rcases hx with rfl | ⟨rfl,_⟩<;>simp
  ·exact h.val j
 ·rw [gO hi]
  split
  ·rename_i e;subst e
   rcases hx with rfl | ⟨rfl,he⟩
   ·intro h;cases h
   ·exact fun _=>he
  ·exact h.black j
theorem tO {x:Int} (hx:x≠0):∀ (C:List Int) (i:Nat),C.getD i 1=0→whites (C.set i x)<whites C:=by
 intro C
 induction C with
 | nil=>intro i h;simp at h
 | cons c r ih =>
   intro i h
   cases i with
   | zero =>
     have h:c=0:=by simpa using h
     subst h
     simp [whites,List.countP_cons,hx]
   | succ i =>
     have:=ih i (by simpa using h)
     simp only [whites,List.set_cons_succ,List.countP_cons] at this ⊢
     omega
theorem o4:∀ (C C':List Int),C.length=C'.length→(∀ j,C'.getD j 1=0→C.getD j 1=0)→whites C'≤whites C
 | [],[],_,_=>Nat.le_refl _
 | c::C,c'::C',hl,h=>by
   have ih:=o4 C C' (by simpa using hl) (fun j hj=>by simpa using h (j+1) (by simpa using hj))
   have h0:=h 0
   simp only [whites,List.countP_cons] at ih ⊢
   by_cases e:c'=0
   ·have:c=0:=by simpa using h0 (by simpa using e)
    simp [e,this,ih]
   ·have:(c' == 0)=false:=by simpa using e
    rw [this]
    simp only [Bool.false_eq_true,if_false]
    split<;>omega
 | [],_::_,hl,_=>by simp at hl
 | _::_,[],hl,_=>by simp at hl
def WPost (ns:List TN) (C:List Int) (i:Nat) (b:Bool) (C':List Int):Prop :=
 C'.length=ns.length∧(b=true→Col ns C'∧Ends ns i∧(∀ j,C'.getD j 0=1↔C.getD j 0=1)∧whites C'≤whites C)∧(b=false→∃ j,Pth ns j j∧j<ns.length)
end Go.Proofs.YthfodompfpdmgaaGreatDoor

namespace Go.Proofs.YthfodompfpdmgaaGreatDoor
open Go.Ab
def cO (ns:List TN) (root:Int) (C:List Int):List (Name × Ob):=[([3],.box [.vw [9] 0 ns.length]),([9],.arr none (C.map i64)),([4],.box [.clo 117 [.d (.ptr (.agg [.sl (some 4) (ns.map ah),i64 root])),.bx [3] 0,.bx [4] 0]])]
theorem uZ {C:List Int} {i:Nat} (h:i<C.length):(C.map i64).getD i .nilp=i64 (C.getD i 0):=by simp [h]
def rF (ns:List TN):Prop:=∀ i,i<ns.length→fH (nd ns i).k=true→(0≤(nd ns i).a∧(nd ns i).a<ns.length)∧(0≤(nd ns i).b∧(nd ns i).b<ns.length)
theorem q8 {k:Int} (h:fH k=true):gl k=true:=by
 simp only [fH,Bool.or_eq_true] at h
 rcases h with h | h<;>simp [gl,h]
set_option maxHeartbeats 4000000 in
theorem D1 {G} (ns:List TN) (root:Int) (_hN:ns.length≤2000) (hfl:∀ n∈ns,n.l.length≤1000000) (hk:rF ns):∀ (m:Nat) (C:List Int) (i:Nat),whites C<m→Col ns C→i<ns.length→(∀ j,C.getD j 0=1→Pth ns j i) →
  HCall Tryz.prog G 117 [.d (i64 i),.d (.ptr (.agg [.sl (some 4) (ns.map ah),i64 root])),.bx [3] 0,.bx [4] 0] (cO ns root C) [3,9,4] (fun r hp'=>∃ b C',r=.d (.bool b)∧hp'=cO ns root C'∧WPost ns C i b C'):=by
 intro m
 induction m with
 | zero=>intro C i hw;omega
 | succ m ih =>
 intro C i hw hC hi hg
 refine aL Tryz.func117 rfl (by decide +kernel) (by simp [Tryz.ntmps117]) (veil fun E=>?_)
 unfold cO
 simp only [go_sem]
 refine ⟨by omega,?_⟩
 rw [bJ hi]
 simp only [go_sem]
 refine ae E (DA (nd ns i).k) rfl rfl (by simp) ?_
 rintro _ rfl
 simp only [go_sem]
 repeat (first
  | (apply a8 E;(· simp only [go_sem]);(· intro h;(try simp only [bq] at h);simp only [↓h,go_sem];rfl);simp only [go_sem])
  | (apply aJ E;(· simp only [go_sem]);(· intro h;(try simp only [bq] at h);simp only [↓h,go_sem];rfl);(· intro h;(try simp only [bq] at h);simp only [↓h,go_sem];rfl);simp only [go_sem])
  | (apply aH E;(· simp only [go_sem]);(· rfl);(· intro h h';(try simp only [bq] at h h');simp only [↓h,↓h',go_sem];rfl);simp only [go_sem])
  | (apply aA E;(· simp only [go_sem]);(· rfl);(· intro h h';(try simp only [bq] at h h');simp only [↓h,↓h',go_sem];rfl);(· intro h h';(try simp only [bq] at h h');simp only [↓h,↓h',go_sem];rfl);simp only [go_sem])
  | (apply bj E;(· decide);simp only [go_sem]))
 have hiC:i<C.length:=by rw [hC.len];exact hi
 apply a8 E
 ·simp only [go_sem]
 ·intro h
  (try simp only [bq] at h)
  simp only [↓h,go_sem]
  exact ⟨⟨by omega,by omega⟩,rfl⟩
 simp only [go_sem]
 apply a8 E
 ·simp only [go_sem]
 ·intro h
  (try simp only [bq] at h)
  simp only [↓h,go_sem]
  rw [uZ hiC]
  simp only [↓h,go_sem]
  rfl
 simp only [go_sem]
 repeat (first
  | (apply a8 E;(· simp only [go_sem]);(· intro h;(try simp only [bq] at h);simp only [↓h,go_sem];rfl);simp only [go_sem])
  | (apply aJ E;(· simp only [go_sem]);(· intro h;(try simp only [bq] at h);simp only [↓h,go_sem];rfl);(· intro h;(try simp only [bq] at h);simp only [↓h,go_sem];rfl);simp only [go_sem])
  | (apply aH E;(· simp only [go_sem]);(· rfl);(· intro h h';(try simp only [bq] at h h');simp only [↓h,↓h',go_sem];rfl);simp only [go_sem])
  | (apply aA E;(· simp only [go_sem]);(· rfl);(· intro h h';(try simp only [bq] at h h');simp only [↓h,↓h',go_sem];rfl);(· intro h h';(try simp only [bq] at h h');simp only [↓h,↓h',go_sem];rfl);simp only [go_sem])
  | (apply bj E;(· decide);simp only [go_sem]))
 refine aX E (fun h1=>?_) (fun h1=>?_)<;>simp only [go_sem]
 ·refine ⟨_,cO ns root C,[3,9,4],id,⟨true,C,rfl,rfl,hC.len,fun _=>⟨hC,?_,fun _=>Iff.rfl,Nat.le_refl _⟩,fun h=>by cases h⟩,?_⟩
  ·cases hL:fH (nd ns i).k with
   | false=>exact .flat hL
   | true =>
     rw [hL] at h1
     exact hC.black i (by simpa using h1)
  ·unfold cO
   simp only [go_sem]
 simp only [Bool.or_eq_false_iff,Bool.not_eq_false',decide_eq_false_iff_not] at h1
 obtain ⟨hL,h2⟩:=h1
 refine ⟨by omega,?_⟩
 rw [uZ hiC]
 simp only [go_sem]
 refine ai E (fun h3=>?_) (fun h3=>?_)<;>simp only [go_sem]
 ·refine ⟨_,cO ns root C,[3,9,4],id,⟨false,C,rfl,rfl,hC.len,fun h=>(by cases h),fun _=>⟨i,hg i h3,hi⟩⟩,?_⟩
  unfold cO
  simp only [go_sem]
 have h0:C.getD i 0=0:=by
  rcases hC.val i with h | h | h
  ·exact h
  ·exact absurd h h3
  ·exact absurd h h2
 have hw1:whites (C.set i 1)<whites C:=tO (by decide) C i (by simpa [List.getD_eq_getElem?_getD,hiC] using h0)
 have hC1:Col ns (C.set i 1):=hC.set hiC (.inl rfl)
 refine ⟨⟨by omega,by omega⟩,⟨by omega,by omega⟩,?_⟩
 rw [bJ hi]
 simp only [go_sem]
 have hin:nd ns i∈ns:=by rw [jc hi];exact List.getElem_mem hi
 refine ae E (qG (nd ns i) (hfl _ hin)) rfl rfl (by simp) ?_
 rintro _ rfl
 simp only [go_sem]
 obtain ⟨K,hK⟩:∃ K,K=ay (nd ns i):=⟨_,rfl⟩
 have hK2:K=[(nd ns i).a,(nd ns i).b]:=by rw [hK,ay,q8 hL,if_pos rfl]
 obtain ⟨hka,hkb⟩:=hk i hi hL
 have hKr:∀ x∈K,(0≤x∧x<ns.length)∧Edg ns i x.toNat:=by
  intro x hx
  rw [hK2] at hx
  rcases List.mem_cons.1 hx with rfl | hx
  ·exact ⟨hka,hL,.inl rfl⟩
  ·rw [List.mem_singleton.1 hx]
   exact ⟨hkb,hL,.inr rfl⟩
 have hKe:(∀ x∈K,Ends ns x.toNat)→Ends ns i:=fun h=>.both (h _ (by rw [hK2];simp)) (h _ (by rw [hK2];simp))
 have hKl:K.length≤2:=by rw [hK2];simp
 rw [← hK]
 clear hK hK2
 have hset:(C.map i64).set i (D.int IntKind.i64 1)=(C.set i 1).map i64:=by rw [List.map_set]
 rw [hset]
 unfold aj
 simp only [go_sem]
 refine dx E (X:={ x:Nat × List Int // x.1≤K.length∧Col ns x.2∧(∀ j,x.2.getD j 0=1↔(C.set i 1).getD j 0=1)∧whites x.2≤whites (C.set i 1)∧∀ k∈K.take x.1,Ends ns k.toNat })
  (fun x=>[(0,.d (i64 i)),(1,.d (.ptr (.agg [.sl (some 4) (ns.map ah),i64 root]))),(2,.bx [3] 0),(3,.bx [4] 0),(36,.d (.sl none (K.map i64))),(37,.d (i64 K.length)),(38,.d (i64 x.1.1))]) (fun x=>cO ns root x.1.2) [3,9,4] (fun x=>K.length-x.1.1) ⟨(0,C.set i 1),Nat.zero_le _,hC1,fun _=>Iff.rfl,Nat.le_refl _,by simp⟩ ?_ ?_
 ·unfold cO
  simp only [go_sem]
  all_goals rfl
 rintro ⟨⟨q,C'⟩,hq,hC',hg',hw',he'⟩ E'
 simp only at hq hC' hg' hw' he' ⊢
 unfold cO
 simp only [go_sem]
 refine ai E' (fun h4=>?_) (fun h4=>?_)<;>simp only [go_sem]
 ·have h4':q<K.length:=by omega
  refine ⟨by omega,?_⟩
  rw [aD h4']
  simp only [go_sem]
  obtain ⟨⟨hx0,hx1⟩,hxe⟩:=hKr K[q] (List.getElem_mem h4')
  obtain ⟨y,hy⟩:∃ y:Nat,y=K[q].toNat:=⟨_,rfl⟩
  have hy':K[q]=(y:Int):=by omega
  rw [← hy] at hxe
  rw [hy']
  have hset1:∀ j,(C.set i 1).getD j 0=if j=i then 1 else C.getD j 0:=fun j=>gO hiC
  have hgy:∀ j,C'.getD j 0=1→Pth ns j y:=by
   intro j hj
   have:=(hg' j).1 hj
   rw [hset1] at this
   split at this
   ·rename_i e;subst e;exact .one hxe
   ·exact (hg j this).snoc hxe
  refine bn E' [.d (i64 y),.d (.ptr (.agg [.sl (some 4) (ns.map ah),i64 root])),.bx [3] 0,.bx [4] 0] (cO ns root C') [3,9,4] (ih C' y (by omega) hC' (by omega) hgy) rfl rfl ⟨by simp only [go_sem],by rw [aa];decide⟩ rfl (by unfold cO;simp only [go_sem]) (by unfold cO;simp only [go_sem]) ?_
  rintro _ _ ⟨b,C2,rfl,rfl,hl2,hpt,hpf⟩
  unfold cO
  simp only [go_sem]
  refine ⟨by simp [hl2,hC'.len],?_⟩
  refine aX E' (fun h5=>?_) (fun h5=>?_)<;>simp only [go_sem]
  ·have hb:b=false:=by simpa using h5
   obtain ⟨j,hj1,hj2⟩:=hpf hb
   refine ⟨_,cO ns root C2,[3,9,4],id,⟨false,C2,rfl,rfl,hl2,fun h=>(by cases h),fun _=>⟨j,hj1,hj2⟩⟩,?_⟩
   unfold cO
   simp only [go_sem]
  ·have hb:b=true:=by simpa using h5
   obtain ⟨g1,g2,g3,g4⟩:=hpt hb
   refine ⟨⟨(q+1,C2),by show q+1≤_;omega,g1,fun j=>(g3 j).trans (hg' j),Nat.le_trans g4 hw',?_⟩,by show K.length-(q+1)<_;omega,?_⟩
   ·intro k hk
    simp only at hk
    rw [List.take_succ_eq_append_getElem h4',List.mem_append,List.mem_singleton] at hk
    rcases hk with hk | rfl
    ·exact he' k hk
    ·rw [← hy];exact g2
   ·unfold cO
    simp only [go_sem]
    rw [ab ⟨by omega,by omega⟩];rfl
 ·have hq':q=K.length:=by omega
  subst hq'
  rw [List.take_length] at he'
  have hei:=hKe he'
  have hiC':i<C'.length:=by rw [hC'.len];exact hi
  have hset1:∀ j,(C.set i 1).getD j 0=if j=i then 1 else C.getD j 0:=fun j=>gO hiC
  have hCi:C'.getD i 0=1:=(hg' i).2 (by rw [hset1,if_pos rfl])
  have hw3:whites (C'.set i 2)≤whites C':=o4 _ _ (by simp) (fun j hj=>by
   simp only [List.getD_eq_getElem?_getD,List.getElem?_set] at hj ⊢
   split at hj
   ·rename_i e;subst e
    simp [hiC'] at hj
   ·exact hj)
  refine ⟨⟨by omega,by omega⟩,_,cO ns root (C'.set i 2),[3,9,4],id,⟨true,C'.set i 2,rfl,rfl,by simp [hC'.len],fun _=>⟨hC'.set hiC' (.inr ⟨rfl,hei⟩),hei,fun j=>?_,by omega⟩,fun h=>by cases h⟩,?_⟩
  ·rw [gO hiC']
   split
   ·rename_i e;subst e
    exact ⟨fun h=>(by cases h),fun h=>absurd h h3⟩
   ·rename_i e
    rw [hg' j,hset1,if_neg e]
  ·unfold cO
   simp only [go_sem]
   rw [List.map_set]
end Go.Proofs.YthfodompfpdmgaaGreatDoor

namespace Go.Proofs.YthfodompfpdmgaaGreatDoor
open Go.Ab
noncomputable def gk (ns:List TN):Bool:=@decide (∀ i,i<ns.length→Ends ns i) (Classical.propDecidable _)
theorem js {ns:List TN} (h:∀ i,i<ns.length→Ends ns i):gk ns=true:=by unfold gk;simpa using h
theorem ll {ns:List TN} (h:¬ ∀ i,i<ns.length→Ends ns i):gk ns=false:=by unfold gk;simpa using h
theorem ot (C:List Int):whites C≤C.length:=List.countP_le_length
theorem HX (ns:List TN):Col ns (List.replicate ns.length 0):=by
 have h:∀ j,(List.replicate ns.length (0:Int)).getD j 0=0:=fun j=>by
  simp only [List.getD_eq_getElem?_getD,List.getElem?_replicate]
  split<;>rfl
 exact ⟨by simp,fun j=>.inl (h j),fun j hj=>by rw [h j] at hj;cases hj⟩
theorem F8 {G} (ns:List TN) (root:Int) (hN:ns.length≤2000) (hfl:∀ n∈ns,n.l.length≤1000000) (hk:rF ns):HP Tryz.prog G 81 [aF ns root] (fun r=>r=.d (.bool (gk ns))):=by
 unfold aF
 refine ao Tryz.func81 rfl (by decide +kernel) (by simp [Tryz.ntmps81]) (veil fun E=>?_)
 simp only [go_sem]
 refine ⟨⟨by omega,by omega,by omega,by omega⟩,?_⟩
 refine bL E [1] (.agg [.sl (some 4) (ns.map ah),i64 root]) rfl rfl ?_
 simp only [go_sem]
 have hrep:List.replicate ns.length (D.int IntKind.i64 0)=(List.replicate ns.length 0).map i64:=by rw [List.map_replicate]
 rw [hrep]
 refine dx E (X:={ x:Nat × List Int // x.1≤ns.length∧Col ns x.2∧(∀ j,x.2.getD j 0≠1)∧∀ k,k<x.1→Ends ns k })
  (fun x=>[(4,.bx [4] 0),(13,.d (i64 ns.length)),(14,.d (i64 x.1.1))]) (fun x=>cO ns root x.1.2) [3,9,4] (fun x=>ns.length-x.1.1) ⟨(0,List.replicate ns.length 0),Nat.zero_le _,HX ns,fun j=>?_,fun k hk=>by omega⟩ ?_ ?_
 ·simp only [List.getD_eq_getElem?_getD,List.getElem?_replicate]
  split<;>decide
 ·unfold cO
  simp only [go_sem]
  all_goals rfl
 rintro ⟨⟨q,C⟩,hq,hC,hg,he⟩ E'
 simp only at hq hC hg he ⊢
 unfold cO
 simp only [go_sem]
 refine ai E' (fun h4=>?_) (fun h4=>?_)<;>simp only [go_sem]
 ·have h4':q<ns.length:=by omega
  refine bn E' [.d (i64 q),.d (.ptr (.agg [.sl (some 4) (ns.map ah),i64 root])),.bx [3] 0,.bx [4] 0] (cO ns root C) [3,9,4] (D1 ns root hN hfl hk (ns.length+1) C q (by have:=ot C;rw [hC.len] at this;omega) hC h4' (fun j hj=>absurd hj (hg j))) rfl rfl ⟨by simp only [go_sem],by rw [aa];decide⟩ rfl (by unfold cO;simp only [go_sem]) (by unfold cO;simp only [go_sem]) ?_
  rintro _ _ ⟨b,C2,rfl,rfl,hl2,hpt,hpf⟩
  unfold cO
  simp only [go_sem]
  refine ⟨by simp [hl2,hC.len],?_⟩
  refine aX E' (fun h5=>?_) (fun h5=>?_)<;>simp only [go_sem]
  ·have hb:b=false:=by simpa using h5
   obtain ⟨j,hj1,hj2⟩:=hpf hb
   rw [ll fun h=>(h j hj2).no hj1]
  ·have hb:b=true:=by simpa using h5
   obtain ⟨g1,g2,g3,g4⟩:=hpt hb
   refine ⟨⟨(q+1,C2),by show q+1≤_;omega,g1,fun j hj=>hg j ((g3 j).1 hj),fun k hk=>?_⟩,by show ns.length-(q+1)<_;omega,?_⟩
   ·simp only at hk
    by_cases e:k=q
    ·rw [e];exact g2
    ·exact he k (by omega)
   ·unfold cO
    simp only [go_sem]
    rw [ab ⟨by omega,by omega⟩];rfl
 ·rw [js fun k hk=>he k (by omega)]
end Go.Proofs.YthfodompfpdmgaaGreatDoor

namespace Go.Proofs.YthfodompfpdmgaaGreatDoor
open Go.Ab
def Sane (ns:List TN):Prop:=ns.length≤1000000∧∀ n∈ns,n.l.length≤1000000∧∀ f∈n.l,f.1.length≤9223372036854775807
def bF (ns:List TN):Bool:=!ns.any fun n=>!aU n ns.length
theorem iA {ns:List TN} (h:bF ns=true) {i:Nat} (hi:i<ns.length):aU (nd ns i) ns.length=true:=by
 rw [jc hi]
 have h:(ns.any fun n=>!aU n ns.length)=false:=by simpa [bF] using h
 have:=List.any_eq_false.1 h ns[i] (List.getElem_mem hi)
 simpa using this
theorem jm {n:TN} {all:Int} (h:aU n all=true):∀ x∈ay n,0≤x∧x<all:=by
 intro x hx
 have h:(ay n).any (ga all)=false:=by
  simp only [aU,Bool.and_eq_true,Bool.not_eq_true'] at h
  exact h.2
 have:=List.any_eq_false.1 h x hx
 simp only [ga,Bool.or_eq_true,decide_eq_true_eq,not_or] at this
 omega
theorem jq {ns:List TN} (h:bF ns=true):rF ns:=by
 intro i hi hL
 have h2:=jm (iA h hi)
 rw [ay,q8 hL,if_pos rfl] at h2
 exact ⟨h2 _ (by simp),h2 _ (by simp)⟩
noncomputable def ct (ns:List TN) (root:Int):Int :=
 if (decide ((ns.length:Int)=0) || decide (2000<(ns.length:Int)))=true then 8
 else if (decide (root<0) || decide ((ns.length:Int)≤root))=true then 4
 else if (!bF ns || !gk ns)=true then 4 else 0
theorem EB {G} (n:TN) (ns:List TN) (root:Int) (hl:n.l.length≤1000000) (hs:∀ f∈n.l,f.1.length≤9223372036854775807):HP Tryz.prog G 79 [ah n,.ptr (aF ns root)] (fun r=>r=.d (.bool (!aU n ns.length))):=by
 unfold aF
 refine ao Tryz.func79 rfl (by decide +kernel) (by simp [Tryz.ntmps79]) (veil fun E=>?_)
 unfold ah bP
 simp only [go_sem]
 refine ae E (FW n ns.length hl hs) rfl rfl (by simp) ?_
 rintro _ rfl
 simp only [go_sem]
theorem EE {G} (ns:List TN) (root:Int) (hs:Sane ns):HP Tryz.prog G 46 [aF ns root] (fun r=>r=.d (i64 (ct ns root))):=by
 unfold aF
 refine ao Tryz.func46 rfl (by decide +kernel) (by simp [Tryz.ntmps46]) (veil fun E=>?_)
 obtain ⟨hs1,hs2⟩:=hs
 simp only [go_sem]
 repeat (first
  | (apply a8 E;(· simp only [go_sem]);(· intro h;(try simp only [bq] at h);simp only [↓h,go_sem];rfl);simp only [go_sem])
  | (apply aJ E;(· simp only [go_sem]);(· intro h;(try simp only [bq] at h);simp only [↓h,go_sem];rfl);(· intro h;(try simp only [bq] at h);simp only [↓h,go_sem];rfl);simp only [go_sem])
  | (apply aH E;(· simp only [go_sem]);(· rfl);(· intro h h';(try simp only [bq] at h h');simp only [↓h,↓h',go_sem];rfl);simp only [go_sem])
  | (apply aA E;(· simp only [go_sem]);(· rfl);(· intro h h';(try simp only [bq] at h h');simp only [↓h,↓h',go_sem];rfl);(· intro h h';(try simp only [bq] at h h');simp only [↓h,↓h',go_sem];rfl);simp only [go_sem])
  | (apply bj E;(· decide);simp only [go_sem]))
 refine aX E (fun h1=>?_) (fun h1=>?_)<;>simp only [go_sem]
 ·rw [ct,if_pos h1]
 repeat (first
  | (apply a8 E;(· simp only [go_sem]);(· intro h;(try simp only [bq] at h);simp only [↓h,go_sem];rfl);simp only [go_sem])
  | (apply aJ E;(· simp only [go_sem]);(· intro h;(try simp only [bq] at h);simp only [↓h,go_sem];rfl);(· intro h;(try simp only [bq] at h);simp only [↓h,go_sem];rfl);simp only [go_sem])
  | (apply aH E;(· simp only [go_sem]);(· rfl);(· intro h h';(try simp only [bq] at h h');simp only [↓h,↓h',go_sem];rfl);simp only [go_sem])
  | (apply aA E;(· simp only [go_sem]);(· rfl);(· intro h h';(try simp only [bq] at h h');simp only [↓h,↓h',go_sem];rfl);(· intro h h';(try simp only [bq] at h h');simp only [↓h,↓h',go_sem];rfl);simp only [go_sem])
  | (apply bj E;(· decide);simp only [go_sem]))
 refine aX E (fun h2=>?_) (fun h2=>?_)<;>simp only [go_sem]
 ·rw [ct,if_neg (by rw [h1];decide),if_pos h2]
 refine nh E [1] (.agg [.sl (some 4) (ns.map ah),i64 root]) rfl rfl ?_
 simp only [go_sem]
 refine ae E (EC ns (fun n=>!aU n ns.length) 79 [.ptr (aF ns root)] hs1 (fun x hx=>EB x ns root (hs2 x hx).1 (hs2 x hx).2)) rfl rfl (by simp) ?_
 rintro _ rfl
 simp only [go_sem]
 have hN:ns.length≤2000:=by
  simp only [Bool.or_eq_false_iff,decide_eq_false_iff_not] at h1
  omega
 repeat (first
  | (apply a8 E;(· simp only [go_sem]);(· intro h;(try simp only [bq] at h);simp only [↓h,go_sem];rfl);simp only [go_sem])
  | (apply aJ E;(· simp only [go_sem]);(· intro h;(try simp only [bq] at h);simp only [↓h,go_sem];rfl);(· intro h;(try simp only [bq] at h);simp only [↓h,go_sem];rfl);simp only [go_sem])
  | (apply aH E;(· simp only [go_sem]);(· rfl);(· intro h h';(try simp only [bq] at h h');simp only [↓h,↓h',go_sem];rfl);simp only [go_sem])
  | (apply aA E;(· simp only [go_sem]);(· rfl);(· intro h h';(try simp only [bq] at h h');simp only [↓h,↓h',go_sem];rfl);(· intro h h';(try simp only [bq] at h h');simp only [↓h,↓h',go_sem];rfl);simp only [go_sem])
  | (apply bj E;(· decide);simp only [go_sem]))
 apply eh E
 ·simp only [go_sem]
 ·intro h hk
  have hrt:bF ns=true:=by rw [bF,h];rfl
  refine ae E (F8 ns root hN (fun n hn=>(hs2 n hn).1) (jq hrt)) rfl (by simp only [↓h,go_sem]<;>rfl) (by simp) ?_
  rintro _ rfl
  exact hk
 simp only [go_sem]
 repeat (first
  | (apply a8 E;(· simp only [go_sem]);(· intro h;(try simp only [bq] at h);simp only [↓h,go_sem];rfl);simp only [go_sem])
  | (apply aJ E;(· simp only [go_sem]);(· intro h;(try simp only [bq] at h);simp only [↓h,go_sem];rfl);(· intro h;(try simp only [bq] at h);simp only [↓h,go_sem];rfl);simp only [go_sem])
  | (apply aH E;(· simp only [go_sem]);(· rfl);(· intro h h';(try simp only [bq] at h h');simp only [↓h,↓h',go_sem];rfl);simp only [go_sem])
  | (apply aA E;(· simp only [go_sem]);(· rfl);(· intro h h';(try simp only [bq] at h h');simp only [↓h,↓h',go_sem];rfl);(· intro h h';(try simp only [bq] at h h');simp only [↓h,↓h',go_sem];rfl);simp only [go_sem])
  | (apply bj E;(· decide);simp only [go_sem]))
 have hr:(ns.any fun n=>!aU n ns.length)=!bF ns:=by rw [bF,Bool.not_not]
 rw [hr]
 refine aX E (fun h3=>?_) (fun h3=>?_)<;>simp only [go_sem]
 ·rw [ct,if_neg (by rw [h1];decide),if_neg (by rw [h2];decide),if_pos h3]
 ·rw [ct,if_neg (by rw [h1];decide),if_neg (by rw [h2];decide),if_neg (by rw [h3];decide)]
end Go.Proofs.YthfodompfpdmgaaGreatDoor

namespace Go.Proofs.YthfodompfpdmgaaGreatDoor
open Go.Ab
def vn (k:Int):Bool:=decide (¬ k=9) && decide (¬ k=10)
theorem kj (k:Int):vn k=!fH k:=by simp [vn,fH,decide_not]
def isE (ns:List TN) (e:List Bool) (j:Nat):Bool:=vn (nd ns j).k || (e.getD (nd ns j).a.toNat false && e.getD (nd ns j).b.toNat false)
def cf (e:List Bool):Nat:=e.countP (! ·)
theorem y0:∀ (e:List Bool) (i:Nat),e.getD i true=false→cf (e.set i true)<cf e
 | [],i,h=>by simp at h
 | c::r,0,h=>by
   have h:c=false:=by simpa using h
   subst h
   simp [cf,List.countP_cons]
 | c::r,i+1,h=>by
   have:=y0 r i (by simpa using h)
   simp only [cf,List.set_cons_succ,List.countP_cons] at this ⊢
   omega
theorem mi {e:List Bool} {i:Nat} (h:i<e.length):(e.map D.bool).getD i .nilp=.bool (e.getD i false):=by simp [h]
def Snd (ns:List TN) (e:List Bool):Prop:=e.length=ns.length∧∀ j,e.getD j false=true→Ends ns j
theorem Snd.is {ns:List TN} {e:List Bool} (h:Snd ns e) {j:Nat} (hj:isE ns e j=true):Ends ns j:=by
 simp only [isE,Bool.or_eq_true,Bool.and_eq_true] at hj
 rcases hj with hj | ⟨h1,h2⟩
 ·exact .flat (by rw [kj] at hj;simpa using hj)
 ·exact .both (h.2 _ h1) (h.2 _ h2)
theorem Snd.set {ns:List TN} {e:List Bool} (h:Snd ns e) {j:Nat} (hj:Ends ns j):Snd ns (e.set j true):=by
 refine ⟨by simpa using h.1,fun q hq=>?_⟩
 by_cases e':j=q
 ·rw [← e'];exact hj
 ·refine h.2 q ?_
  simpa [List.getD_eq_getElem?_getD,List.getElem?_set,e'] using hq
theorem rr {ns:List TN} {e:List Bool} (hl:rF ns) (hc:∀ j,j<ns.length→isE ns e j=true→e.getD j false=true) {j:Nat} (h:Ends ns j):j<ns.length→e.getD j false=true:=by
 induction h with
 | flat h=>exact fun hj=>hc _ hj (by rw [isE,kj,h];rfl)
 | @both i ha hb iha ihb =>
   intro hj
   refine hc _ hj ?_
   cases hL:fH (nd ns i).k with
   | false=>rw [isE,kj,hL];rfl
   | true =>
     obtain ⟨⟨h1,h2⟩,h3,h4⟩:=hl i hj hL
     rw [isE,iha (by omega),ihb (by omega)]
     simp
set_option maxHeartbeats 4000000 in
theorem Bs {G} (ns:List TN) (root:Int) (hs:Sane ns):HP Tryz.prog G 27 [aF ns root] (fun r=>r=.d (i64 (ct ns root))):=by
 unfold aF
 refine ao Tryz.func27 rfl (by decide +kernel) (by simp [Tryz.ntmps27]) (veil fun E=>?_)
 obtain ⟨hs1,hs2⟩:=hs
 simp only [go_sem]
 repeat (first
  | (apply a8 E;(· simp only [go_sem]);(· intro h;(try simp only [bq] at h);simp only [↓h,go_sem];rfl);simp only [go_sem])
  | (apply aJ E;(· simp only [go_sem]);(· intro h;(try simp only [bq] at h);simp only [↓h,go_sem];rfl);(· intro h;(try simp only [bq] at h);simp only [↓h,go_sem];rfl);simp only [go_sem])
  | (apply aH E;(· simp only [go_sem]);(· rfl);(· intro h h';(try simp only [bq] at h h');simp only [↓h,↓h',go_sem];rfl);simp only [go_sem])
  | (apply aA E;(· simp only [go_sem]);(· rfl);(· intro h h';(try simp only [bq] at h h');simp only [↓h,↓h',go_sem];rfl);(· intro h h';(try simp only [bq] at h h');simp only [↓h,↓h',go_sem];rfl);simp only [go_sem])
  | (apply bj E;(· decide);simp only [go_sem]))
 have hlen:decide ((ns.length:Int)<1)=decide ((ns.length:Int)=0):=decide_eq_decide.2 (by omega)
 rw [hlen]
 refine aX E (fun h1=>?_) (fun h1=>?_)<;>simp only [go_sem]
 ·rw [ct,if_pos h1]
 repeat (first
  | (apply a8 E;(· simp only [go_sem]);(· intro h;(try simp only [bq] at h);simp only [↓h,go_sem];rfl);simp only [go_sem])
  | (apply aJ E;(· simp only [go_sem]);(· intro h;(try simp only [bq] at h);simp only [↓h,go_sem];rfl);(· intro h;(try simp only [bq] at h);simp only [↓h,go_sem];rfl);simp only [go_sem])
  | (apply aH E;(· simp only [go_sem]);(· rfl);(· intro h h';(try simp only [bq] at h h');simp only [↓h,↓h',go_sem];rfl);simp only [go_sem])
  | (apply aA E;(· simp only [go_sem]);(· rfl);(· intro h h';(try simp only [bq] at h h');simp only [↓h,↓h',go_sem];rfl);(· intro h h';(try simp only [bq] at h h');simp only [↓h,↓h',go_sem];rfl);simp only [go_sem])
  | (apply bj E;(· decide);simp only [go_sem]))
 refine aX E (fun h2=>?_) (fun h2=>?_)<;>simp only [go_sem]
 ·rw [ct,if_neg (by rw [h1];decide),if_pos h2]
 have hN:ns.length≤2000:=by
  simp only [Bool.or_eq_false_iff,decide_eq_false_iff_not] at h1
  omega
 have hm:ct ns root=if (!bF ns || !gk ns)=true then 4 else 0:=by rw [ct,if_neg (by rw [h1];decide),if_neg (by rw [h2];decide)]
 refine bL E [1] (.agg [.sl (some 4) (ns.map ah),i64 root]) rfl rfl ?_
 simp only [go_sem]
 refine bc E (X:={ i:Nat // i≤ns.length∧∀ j,j<i→aU (nd ns j) ns.length=true }) (fun x=>[(1,.d (.ptr (.agg [.sl (some 4) (ns.map ah),i64 root]))),(3,.d (i64 x.1))]) (fun x=>ns.length-x.1) rfl ⟨0,Nat.zero_le _,by omega⟩ ?_ ?_
 ·simp only [go_sem]
  all_goals rfl
 rintro ⟨i,hi,hab⟩ E'
 simp only [go_sem]
 refine ai E' (fun h3=>?_) (fun h3=>?_)<;>simp only [go_sem]
 ·have h3':i<ns.length:=by omega
  have hin:nd ns i∈ns:=by rw [jc h3'];exact List.getElem_mem h3'
  refine kr mixed (by decide +kernel) E' fun E2=>?_
  simp only [go_sem]
  refine ⟨by omega,?_⟩
  rw [bJ h3']
  simp only [go_sem]
  refine FO E2 (FP (nd ns i) ns.length (hs2 _ hin).1 (hs2 _ hin).2) rfl rfl (by simp) ?_
  simp only [go_sem]
  refine aX E' (fun h4=>?_) (fun h4=>?_)<;>simp only [go_sem]
  ·have hr:bF ns=false:=by
    have:(ns.any fun n=>!aU n ns.length)=true:=List.any_eq_true.2 ⟨_,hin,h4⟩
    rw [bF,this];rfl
   rw [hm,hr];rfl
  ·refine ⟨⟨i+1,by omega,fun j hj=>?_⟩,by show ns.length-(i+1)<_;omega,?_⟩
   ·by_cases e:j=i
    ·rw [e];simpa using h4
    ·exact hab j (by omega)
   ·rw [ab ⟨by omega,by omega⟩];rfl
 have hi':i=ns.length:=by omega
 subst hi'
 have hr:bF ns=true:=by
  have:(ns.any fun n=>!aU n ns.length)=false:=by
   rw [List.any_eq_false]
   intro n hn
   obtain ⟨q,hq,rfl⟩:=List.getElem_of_mem hn
   have:=hab q hq
   rw [jc hq] at this
   simp [this]
  rw [bF,this];rfl
 have hl:=jq hr
 refine ⟨⟨by omega,by omega,by omega,by omega⟩,?_⟩
 have hrep:List.replicate ns.length (D.bool false)=(List.replicate ns.length false).map .bool:=by rw [List.map_replicate]
 rw [hrep]
 refine dx E (X:={ x:Bool × List Bool // Snd ns x.2∧(x.1=false→∀ j,j<ns.length→isE ns x.2 j=true→x.2.getD j false=true) })
  (fun x=>[(1,.d (.ptr (.agg [.sl (some 4) (ns.map ah),i64 root]))),(4,.vw [51] 0 ns.length),(5,.d (.bool x.1.1))]) (fun x=>[([51],.arr none (x.1.2.map .bool))]) [51] (fun x=>2*cf x.1.2+if x.1.1 then 1 else 0)
  ⟨(true,List.replicate ns.length false),⟨by simp,fun j hj=>?_⟩,fun h=>by cases h⟩ ?_ ?_
 ·simp only [List.getD_eq_getElem?_getD,List.getElem?_replicate] at hj
  split at hj<;>cases hj
 ·simp only [go_sem]
  all_goals rfl
 rintro ⟨⟨more,e⟩,hsnd,hcl⟩ E0
 refine aR E0 fun Q' hQ E'=>?_
 simp only at hsnd hcl ⊢
 simp only [go_sem]
 refine aX E' (fun h4=>?_) (fun h4=>?_)<;>simp only [go_sem]
 ·subst h4
  refine dx E' (X:={ x:Nat × Bool × List Bool // x.1≤ns.length∧Snd ns x.2.2∧(x.2.1=true→cf x.2.2<cf e)∧(x.2.1=false→x.2.2=e∧∀ j,j<x.1→isE ns e j=true→e.getD j false=true) })
   (fun x=>[(1,.d (.ptr (.agg [.sl (some 4) (ns.map ah),i64 root]))),(4,.vw [51] 0 ns.length),(5,.d (.bool x.1.2.1)),(6,.d (i64 x.1.1))]) (fun x=>[([51],.arr none (x.1.2.2.map .bool))]) [51] (fun x=>ns.length-x.1.1)
   ⟨(0,false,e),Nat.zero_le _,hsnd,fun h=>(by cases h),fun _=>⟨rfl,fun j hj=>by omega⟩⟩ ?_ ?_
  ·simp only [go_sem]
   all_goals rfl
  rintro ⟨⟨i,more,e'⟩,hi,hsnd',hm1,hm2⟩ E3
  simp only at hi hsnd' hm1 hm2 ⊢
  simp only [go_sem]
  refine ai E3 (fun h5=>?_) (fun h5=>?_)<;>simp only [go_sem]
  ·have h5':i<ns.length:=by omega
   refine ⟨by omega,?_⟩
   rw [bJ h5']
   simp only [go_sem]
   have hel:e'.length=ns.length:=hsnd'.1
   have hla:vn (nd ns i).k=false→((0≤(nd ns i).a∧(nd ns i).a<ns.length)∧(0≤(nd ns i).b∧(nd ns i).b<ns.length)):=fun h=>hl i h5' (by rw [kj] at h;simpa using h)
   have hgt:∀ x:Int,0≤x→x<ns.length→(e'.map D.bool).getD x.toNat .nilp=.bool (e'.getD x.toNat false):=fun x h0 h1=>mi (by omega)
   repeat (first
    | (apply a8 E3;(· simp only [go_sem]);(· intro h;(try simp only [bq] at h);simp only [↓h,go_sem];rfl);simp only [go_sem])
    | (apply aJ E3;(· simp only [go_sem]);(· intro h;(try simp only [bq] at h);simp only [↓h,go_sem];rfl);(· intro h;(try simp only [bq] at h);simp only [↓h,go_sem];rfl);simp only [go_sem])
    | (apply aH E3;(· simp only [go_sem]);(· rfl);(· intro h h';(try simp only [bq] at h h');simp only [↓h,↓h',go_sem];rfl);simp only [go_sem])
    | (apply aA E3;(· simp only [go_sem]);(· rfl);(· intro h h';(try simp only [bq] at h h');simp only [↓h,↓h',go_sem];rfl);(· intro h h';(try simp only [bq] at h h');simp only [↓h,↓h',go_sem];rfl);simp only [go_sem])
    | (apply bj E3;(· decide);simp only [go_sem]))
   apply a8 E3
   ·simp only [go_sem]
   ·intro h
    have hb:=hla h
    simp only [↓h,go_sem]
    exact ⟨⟨by omega,by omega⟩,rfl⟩
   simp only [go_sem]
   apply a8 E3
   ·simp only [go_sem]
   ·intro h
    have hb:=hla h
    simp only [↓h,go_sem]
    rw [hgt _ (by omega) (by omega)]
    simp only [↓h,go_sem]
    rfl
   simp only [go_sem]
   repeat (first
    | (apply a8 E3;(· simp only [go_sem]);(· intro h;(try simp only [bq] at h);simp only [↓h,go_sem];rfl);simp only [go_sem])
    | (apply aJ E3;(· simp only [go_sem]);(· intro h;(try simp only [bq] at h);simp only [↓h,go_sem];rfl);(· intro h;(try simp only [bq] at h);simp only [↓h,go_sem];rfl);simp only [go_sem])
    | (apply aH E3;(· simp only [go_sem]);(· rfl);(· intro h h';(try simp only [bq] at h h');simp only [↓h,↓h',go_sem];rfl);simp only [go_sem])
    | (apply aA E3;(· simp only [go_sem]);(· rfl);(· intro h h';(try simp only [bq] at h h');simp only [↓h,↓h',go_sem];rfl);(· intro h h';(try simp only [bq] at h h');simp only [↓h,↓h',go_sem];rfl);simp only [go_sem])
    | (apply bj E3;(· decide);simp only [go_sem]))
   apply aH E3
   ·simp only [go_sem]
   ·rfl
   ·intro h h'
    (try simp only [bq] at h h')
    simp only [↓h,↓h',go_sem]
    have hb:=hla h
    exact ⟨⟨by omega,by omega⟩,rfl⟩
   simp only [go_sem]
   apply aH E3
   ·simp only [go_sem]
   ·rfl
   ·intro h h'
    (try simp only [bq] at h h')
    simp only [↓h,↓h',go_sem]
    have hb:=hla h
    rw [hgt _ (by omega) (by omega)]
    simp only [↓h,↓h',go_sem]
    rfl
   simp only [go_sem]
   repeat (first
    | (apply a8 E3;(· simp only [go_sem]);(· intro h;(try simp only [bq] at h);simp only [↓h,go_sem];rfl);simp only [go_sem])
    | (apply aJ E3;(· simp only [go_sem]);(· intro h;(try simp only [bq] at h);simp only [↓h,go_sem];rfl);(· intro h;(try simp only [bq] at h);simp only [↓h,go_sem];rfl);simp only [go_sem])
    | (apply aH E3;(· simp only [go_sem]);(· rfl);(· intro h h';(try simp only [bq] at h h');simp only [↓h,↓h',go_sem];rfl);simp only [go_sem])
    | (apply aA E3;(· simp only [go_sem]);(· rfl);(· intro h h';(try simp only [bq] at h h');simp only [↓h,↓h',go_sem];rfl);(· intro h h';(try simp only [bq] at h h');simp only [↓h,↓h',go_sem];rfl);simp only [go_sem])
    | (apply bj E3;(· decide);simp only [go_sem]))
   obtain ⟨is,hIs⟩:∃ is,is=isE ns e' i:=⟨_,rfl⟩
   have hIs':(decide (¬ (nd ns i).k=9) && decide (¬ (nd ns i).k=10) || e'.getD (nd ns i).a.toNat false && e'.getD (nd ns i).b.toNat false)=is:=hIs.symm
   rw [hIs']
   have hie:i<e'.length:=by omega
   apply a8 E3
   ·simp only [go_sem]
   ·intro h
    simp only [↓h,go_sem]
    exact ⟨⟨by omega,by omega⟩,rfl⟩
   simp only [go_sem]
   apply a8 E3
   ·simp only [go_sem]
   ·intro h
    simp only [↓h,go_sem]
    rw [mi hie]
    simp only [↓h,go_sem]
    rfl
   simp only [go_sem]
   repeat (first
    | (apply a8 E3;(· simp only [go_sem]);(· intro h;(try simp only [bq] at h);simp only [↓h,go_sem];rfl);simp only [go_sem])
    | (apply aJ E3;(· simp only [go_sem]);(· intro h;(try simp only [bq] at h);simp only [↓h,go_sem];rfl);(· intro h;(try simp only [bq] at h);simp only [↓h,go_sem];rfl);simp only [go_sem])
    | (apply aH E3;(· simp only [go_sem]);(· rfl);(· intro h h';(try simp only [bq] at h h');simp only [↓h,↓h',go_sem];rfl);simp only [go_sem])
    | (apply aA E3;(· simp only [go_sem]);(· rfl);(· intro h h';(try simp only [bq] at h h');simp only [↓h,↓h',go_sem];rfl);(· intro h h';(try simp only [bq] at h h');simp only [↓h,↓h',go_sem];rfl);simp only [go_sem])
    | (apply bj E3;(· decide);simp only [go_sem]))
   refine aX E3 (fun h6=>?_) (fun h6=>?_)<;>simp only [go_sem]
   ·simp only [Bool.and_eq_true,Bool.not_eq_true'] at h6
    obtain ⟨h6,h7⟩:=h6
    rw [hIs] at h6
    have hei:=hsnd'.is h6
    have hcf:cf (e'.set i true)<cf e':=y0 e' i (by simpa [List.getD_eq_getElem?_getD,hie] using h7)
    have hcf':cf e'≤cf e:=by
     cases more with
     | true=>exact Nat.le_of_lt (hm1 rfl)
     | false=>rw [(hm2 rfl).1];exact Nat.le_refl _
    refine ⟨⟨by omega,by omega⟩,⟨(i+1,true,e'.set i true),by show i+1≤_;omega,hsnd'.set hei,fun _=>by show cf (e'.set i true)<_;omega,fun h=>by cases h⟩,by show ns.length-(i+1)<_;omega,?_⟩
    rw [ab ⟨by omega,by omega⟩,List.map_set]
    simp only [go_sem]
    rfl
   ·refine ⟨⟨(i+1,more,e'),by show i+1≤_;omega,hsnd',hm1,fun h=>⟨(hm2 h).1,fun j hj hjs=>?_⟩⟩,by show ns.length-(i+1)<_;omega,?_⟩
    ·obtain ⟨g1,g2⟩:=hm2 h
     simp only at hj
     by_cases e2:j=i
     ·subst e2
      rw [hIs,g1,hjs] at h6
      simpa using h6
     ·exact g2 j (by omega) hjs
    ·rw [ab ⟨by omega,by omega⟩]
     simp only [go_sem]
     rfl
  ·have hi':i=ns.length:=by omega
   subst hi'
   rw [hQ]
   simp only [go_sem]
   refine ⟨⟨(more,e'),hsnd',fun h j hj hjs=>?_⟩,?_,?_⟩
   ·obtain ⟨g1,g2⟩:=hm2 h
    simp only [g1] at hjs ⊢
    exact g2 j hj hjs
   ·cases more with
    | true=>have:=hm1 rfl;show 2*cf e'+1<2*cf e+1;omega
    | false=>have:=(hm2 rfl).1;show 2*cf e'+0<2*cf e+1;rw [this];omega
   ·simp only [go_sem]
 ·have hc:=hcl h4
  rw [hQ]
  simp only [go_sem]
  refine dx E (X:={ i:Nat // i≤ns.length∧∀ j,j<i→e.getD j false=true }) (fun x=>[(4,.vw [51] 0 ns.length),(9,.d (i64 x.1))]) (fun x=>[([51],.arr none (e.map .bool))]) [51] (fun x=>ns.length-x.1)
   ⟨0,Nat.zero_le _,fun j hj=>by omega⟩ ?_ ?_
  ·simp only [go_sem]
   all_goals rfl
  rintro ⟨i,hi,hall⟩ E3
  simp only [go_sem]
  refine ai E3 (fun h5=>?_) (fun h5=>?_)<;>simp only [go_sem]
  ·have h5':i<ns.length:=by omega
   have hie:i<e.length:=by have:=hsnd.1;omega
   refine ⟨by omega,?_⟩
   rw [mi hie]
   simp only [go_sem]
   refine aX E3 (fun h6=>?_) (fun h6=>?_)<;>simp only [go_sem]
   ·have h6:e.getD i false=false:=by simpa using h6
    have:gk ns=false:=ll fun h=>by
     have:=rr hl hc (h i h5') h5'
     rw [h6] at this;cases this
    rw [hm,hr,this];rfl
   ·refine ⟨⟨i+1,by omega,fun j hj=>?_⟩,by show ns.length-(i+1)<_;omega,?_⟩
    ·by_cases e2:j=i
     ·rw [e2];simpa using h6
     ·exact hall j (by omega)
    ·rw [ab ⟨by omega,by omega⟩];rfl
  ·have:gk ns=true:=js fun j hj=>hsnd.2 j (hall j (by omega))
   rw [hm,hr,this];rfl
end Go.Proofs.YthfodompfpdmgaaGreatDoor

namespace Go.Proofs.YthfodompfpdmgaaGreatDoor
open Go.Ab
inductive Dfs {α:Type} (kids:α→List α):List α→List α→List α→Prop
 | done (out:List α):Dfs kids out [] out
 | skip {out todo r:List α} {s:α} (h:s∈out) (t:Dfs kids out todo r):Dfs kids out (todo++[s]) r
 | take {out todo r:List α} {s:α} (h:s ∉ out) (t:Dfs kids (out++[s]) (todo++(kids s).reverse) r):Dfs kids out (todo++[s]) r
theorem gE {α:Type} {a b:List α} {x y:α} (h:a++[x]=b++[y]):a=b∧x=y:=by
 have:=List.append_inj' h rfl
 exact ⟨this.1,by simpa using this.2⟩
theorem Dfs.fn {α:Type} {kids:α→List α} {out todo r:List α} (h:Dfs kids out todo r):∀ {r'},Dfs kids out todo r'→r=r':=by
 induction h with
 | done out =>
   intro r' h'
   generalize ht:([]:List α)=t at h'
   cases h' with
   | done=>rfl
   | skip=>simp at ht
   | take=>simp at ht
 | skip h _ ih =>
   intro r' h'
   generalize ht:_++[_]=t at h'
   cases h' with
   | done=>simp at ht
   | skip h1 t1=>obtain ⟨rfl,rfl⟩:=gE ht;exact ih t1
   | take h1 t1=>obtain ⟨rfl,rfl⟩:=gE ht;exact absurd h h1
 | take h _ ih =>
   intro r' h'
   generalize ht:_++[_]=t at h'
   cases h' with
   | done=>simp at ht
   | skip h1 t1=>obtain ⟨rfl,rfl⟩:=gE ht;exact absurd h1 h
   | take h1 t1=>obtain ⟨rfl,rfl⟩:=gE ht;exact ih t1
theorem Dfs.map {α β:Type} {ka:α→List α} {kb:β→List β} {f:α→β} {ok:α→Prop} (hi:∀ a b,ok a→ok b→f a=f b→a=b) (hk:∀ a,ok a→kb (f a)=(ka a).map f∧∀ b∈ka a,ok b) {out todo r:List α} (h:Dfs ka out todo r) :
  (∀ a∈out,ok a)→(∀ a∈todo,ok a)→Dfs kb (out.map f) (todo.map f) (r.map f)∧∀ a∈r,ok a:=by
 induction h with
 | done out=>exact fun ho _=>⟨.done _,ho⟩
 | @skip out todo r s h _ ih =>
   intro ho ht
   obtain ⟨h1,h2⟩:=ih ho (fun a ha=>ht a (List.mem_append_left _ ha))
   refine ⟨?_,h2⟩
   rw [List.map_append,List.map_cons,List.map_nil]
   exact .skip (List.mem_map_of_mem h) h1
 | @take out todo r s h _ ih =>
   intro ho ht
   have hs:ok s:=ht s (by simp)
   obtain ⟨g1,g2⟩:=hk s hs
   obtain ⟨h1,h2⟩:=ih (fun a ha=>by
    rcases List.mem_append.1 ha with ha | ha
    ·exact ho a ha
    ·rw [List.mem_singleton.1 ha];exact hs) (fun a ha=>by
    rcases List.mem_append.1 ha with ha | ha
    ·exact ht a (List.mem_append_left _ ha)
    ·exact g2 a (List.mem_reverse.1 ha))
   refine ⟨?_,h2⟩
   rw [List.map_append,List.map_cons,List.map_nil]
   refine .take (fun hm=>?_) ?_
   ·obtain ⟨a,ha,e⟩:=List.mem_map.1 hm
    exact h (hi a s (ho a ha) hs e ▸ ha)
   ·simpa [List.map_append,g1,List.map_reverse] using h1
def unseen {α:Type} [DecidableEq α] (U out:List α):Nat:=U.countP fun x=>!decide (x∈out)
theorem ft {α:Type} [DecidableEq α] {out:List α} {s:α} (h:s ∉ out):∀ {U:List α},s∈U→unseen U (out++[s])<unseen U out
 | [],hs=>by cases hs
 | x::U,hs=>by
   have hle:∀ U:List α,unseen U (out++[s])≤unseen U out:=fun U=>by
    unfold unseen
    refine List.countP_mono_left fun y _ hy=>?_
    simp only [Bool.not_eq_true',decide_eq_false_iff_not,List.mem_append,not_or] at hy ⊢
    exact hy.1
   by_cases e:x=s
   ·subst e
    have h1:=hle U
    have e1:decide (x∈out++[x])=true:=by simp
    have e2:decide (x∈out)=false:=by simpa using h
    simp only [unseen,List.countP_cons,e1,e2] at h1 ⊢
    simp only [Bool.not_true,Bool.not_false,Bool.false_eq_true,if_false,if_true]
    omega
   ·have h1:=ft h (U:=U) ((List.mem_cons.1 hs).resolve_left (fun h=>e h.symm))
    have e1:decide (x∈out++[s])=decide (x∈out):=by simp [e]
    simp only [unseen,List.countP_cons,e1] at h1 ⊢
    omega
abbrev Spot:=Int × Int
def bu (s:Spot):D:=.agg [i64 s.1,i64 s.2]
def eY (n:TN) (side:Int) (j:Nat):Spot:=((ay n).getD j 0,if (decide (n.k=6) && decide (j=0))=true then jb side else side)
def cY (n:TN) (side:Int):List Spot:=(List.range (ay n).length).map (eY n side)
def bQ (ns:List TN) (s:Spot):List Spot:=cY (nd ns s.1.toNat) s.2
theorem tT {n:TN} {side:Int} {i:Nat} (h:i<(ay n).length):((cY n side).take i).map bu++[bu (eY n side i)]=((cY n side).take (i+1)).map bu:=by
 have hl:i<(cY n side).length:=by simp [cY,h]
 rw [List.take_succ_eq_append_getElem hl,List.map_append]
 simp [cY]
theorem rR {l:List Spot} {i:Nat} (h:i<l.length):(l.map bu).getD i .nilp=.agg [i64 (l.getD i (0,0)).1,i64 (l.getD i (0,0)).2]:=by simp [h,bu]
end Go.Proofs.YthfodompfpdmgaaGreatDoor

namespace Go.Proofs.YthfodompfpdmgaaGreatDoor
open Go.Ab
theorem xl {n:TN} (h:n.l.length≤1000000):(ay n).length≤1000000:=by
 unfold ay
 split
 ·simp
 ·split<;>simp
  omega
theorem dS {l:List Int} {i:Nat} (h:i<l.length):l[i]=l.getD i 0:=by simp [h]
theorem Dt {G} (ns:List TN) (root:Int) (x:Nat) (side:Int) (hx:x<ns.length) (hfl:∀ n∈ns,n.l.length≤1000000) :
  HCall Tryz.prog G 119 [.d (aF ns root),.d (.agg [i64 x,i64 side])] [] [] (fun r hp'=>r=.vw [0] 0 (cY (nd ns x) side).length∧hp'=[([0],.arr (some 2) ((cY (nd ns x) side).map bu))]):=by
 have hin:nd ns x∈ns:=by rw [jc hx];exact List.getElem_mem hx
 have hkl:=xl (hfl _ hin)
 unfold aF
 refine aL Tryz.func119 rfl (by decide +kernel) (by simp [Tryz.ntmps119]) (veil fun E=>?_)
 simp only [go_sem]
 refine ⟨by omega,?_⟩
 rw [bJ hx]
 simp only [go_sem]
 refine ae E (qG (nd ns x) (hfl _ hin)) rfl rfl (by simp) ?_
 rintro _ rfl
 simp only [go_sem]
 unfold aj
 simp only [go_sem]
 refine bL E [2] (.agg [.sl (some 4) (ns.map ah),i64 root]) rfl rfl ?_
 simp only [go_sem]
 refine bL E [3] (.agg [i64 x,i64 side]) rfl rfl ?_
 simp only [go_sem]
 refine bL E [5] (.agg [i64 (nd ns x).k,i64 (nd ns x).a,i64 (nd ns x).b,.sl (some 2) ((nd ns x).l.map aG)]) rfl rfl ?_
 simp only [go_sem]
 refine fZ E 6 99 (some 2) rfl (by rw [aa];decide) ?_
 simp only [go_sem]
 have hlen:(cY (nd ns x) side).length=(ay (nd ns x)).length:=by simp [cY]
 refine au E (X:={ i:Nat // i≤(ay (nd ns x)).length }) (fun y=>[(3,.d (.ptr (.agg [i64 x,i64 side]))),(5,.d (.ptr (.agg [i64 (nd ns x).k,i64 (nd ns x).a,i64 (nd ns x).b,.sl (some 2) ((nd ns x).l.map aG)]))),(6,.vw [99] 0 y.1),(17,.d (.sl none ((ay (nd ns x)).map i64))),(18,.d (i64 (ay (nd ns x)).length)),(19,.d (i64 y.1))]) (fun y=>[([99],.arr (some 2) (((cY (nd ns x) side).take y.1).map bu))]) [99] (fun y=>(ay (nd ns x)).length-y.1) ⟨0,Nat.zero_le _⟩ id ?_ ?_
 ·simp only [go_sem]
  all_goals rfl
 rintro ⟨i,hi⟩ E'
 simp only [go_sem]
 refine ai E' (fun h1=>?_) (fun h1=>?_)<;>simp only [go_sem]
 ·have h1':i<(ay (nd ns x)).length:=by omega
  refine ⟨by omega,?_⟩
  rw [aD h1',dS h1']
  simp only [go_sem]
  repeat (first
   | (apply a8 E';(· simp only [go_sem]);(· intro h;(try simp only [bq] at h);simp only [↓h,go_sem];rfl);simp only [go_sem])
   | (apply aJ E';(· simp only [go_sem]);(· intro h;(try simp only [bq] at h);simp only [↓h,go_sem];rfl);(· intro h;(try simp only [bq] at h);simp only [↓h,go_sem];rfl);simp only [go_sem])
   | (apply aH E';(· simp only [go_sem]);(· rfl);(· intro h h';(try simp only [bq] at h h');simp only [↓h,↓h',go_sem];rfl);simp only [go_sem])
   | (apply aA E';(· simp only [go_sem]);(· rfl);(· intro h h';(try simp only [bq] at h h');simp only [↓h,↓h',go_sem];rfl);(· intro h h';(try simp only [bq] at h h');simp only [↓h,↓h',go_sem];rfl);simp only [go_sem])
   | (apply bj E';(· decide);simp only [go_sem]))
  have hkt:=tT (side:=side) h1'
  have hi0:decide ((i:Int)=0)=decide (i=0):=decide_eq_decide.2 (by omega)
  rw [hi0]
  refine aX E' (fun h2=>?_) (fun h2=>?_)<;>simp only [go_sem]
  ·refine ae E' (DC side) rfl rfl (by simp) ?_
   rintro _ rfl
   simp only [go_sem]
   refine ⟨by omega,⟨i+1,by omega⟩,by show (ay (nd ns x)).length-(i+1)<_;omega,tau [([99],[40])],?_⟩
   simp only [go_sem]
   refine ⟨by rw [ab ⟨by omega,by omega⟩];rfl,?_⟩
   rw [List.take_of_length_le (by simp;omega),← hkt]
   simp only [eY,h2,if_true,bu]
  ·refine ⟨by omega,⟨i+1,by omega⟩,by show (ay (nd ns x)).length-(i+1)<_;omega,tau [([99],[40])],?_⟩
   simp only [go_sem]
   refine ⟨by rw [ab ⟨by omega,by omega⟩];rfl,?_⟩
   rw [List.take_of_length_le (by simp;omega),← hkt]
   simp only [eY,h2,Bool.false_eq_true,if_false,bu]
 ·have h3:i=(ay (nd ns x)).length:=by omega
  subst h3
  refine ⟨_,_,[0],tau [([0],[99])],⟨rfl,rfl⟩,?_⟩
  simp only [go_sem]
  rw [hlen,List.take_of_length_le (by omega)]
  exact ⟨rfl,rfl⟩
def dH (l:List Spot) (i:Nat):List Spot:=(List.range l.length).map fun q=>l.getD (if q<i∨l.length≤q+i then l.length-1-q else q) (0,0)
theorem sg (l:List Spot) (i:Nat):(dH l i).length=l.length:=by simp [dH]
theorem sS {l:List Spot} {i q:Nat} (h:q<l.length):(dH l i).getD q (0,0)=l.getD (if q<i∨l.length≤q+i then l.length-1-q else q) (0,0):=by
 simp [dH,h]
theorem wS (l:List Spot):dH l 0=l:=by
 refine List.ext_getElem (by simp [dH]) fun q h1 h2=>?_
 have:¬ l.length≤q:=by omega
 simp [dH,h2,this]
theorem Ap {l:List Spot} {i:Nat} (h:l.length≤2*i+1):dH l i=l.reverse:=by
 refine List.ext_getElem (by simp [dH]) fun q h1 h2=>?_
 have h2':q<l.length:=by simpa using h2
 have h3:l.length-1-q<l.length:=by omega
 by_cases e:q<i∨l.length≤q+i
 ·simp [dH,e,h3]
 ·have:l.length-1-q=q:=by omega
  simp [dH,e,h2',this]
theorem x5 {l:List Spot} {i:Nat} (h:2*i+1<l.length):((dH l i).set i (l.getD (l.length-1-i) (0,0))).set (l.length-1-i) (l.getD i (0,0))=dH l (i+1):=by
 refine List.ext_getElem (by simp [dH]) fun q h1 h2=>?_
 have h2':q<l.length:=by simpa [dH] using h2
 simp only [List.getElem_set]
 by_cases e1:l.length-1-i=q
 ·subst e1
  have:l.length-1-i<i+1∨l.length≤l.length-1-i+(i+1):=by omega
  have e2:l.length-1-(l.length-1-i)=i:=by omega
  simp [dH,this,e2]
 ·rw [if_neg e1]
  by_cases e2:i=q
  ·subst e2
   have:i<i+1∨l.length≤i+(i+1):=by omega
   simp [dH,this]
  ·rw [if_neg e2]
   have:(q<i+1∨l.length≤q+(i+1))↔(q<i∨l.length≤q+i):=by omega
   simp [dH,this]
theorem De {G} (l:List Spot) (hl:l.length≤1000000):HCall Tryz.prog G 120 [.vw [38,0] 0 l.length] [([38,0],.arr (some 2) (l.map bu))] [38] (fun r hp'=>r=.tup []∧hp'=[([38,0],.arr (some 2) (l.reverse.map bu))]):=by
 refine aL Tryz.func120 rfl (by decide +kernel) (by simp [Tryz.ntmps120]) (veil fun E=>?_)
 simp only [go_sem]
 refine dx E (X:={ i:Nat // i≤l.length }) (fun x=>[(0,.vw [38,0] 0 l.length),(2,.d (i64 x.1)),(3,.d (i64 ((l.length:Int)-1-x.1)))]) (fun x=>[([38,0],.arr (some 2) ((dH l x.1).map bu))]) [38] (fun x=>l.length-x.1) ⟨0,Nat.zero_le _⟩ ?_ ?_
 ·simp only [go_sem]
  rw [ab ⟨by omega,by omega⟩,wS]
  exact ⟨congrArg (fun z=>AV.d (i64 z)) (by omega),rfl⟩
 rintro ⟨i,hi⟩ E'
 simp only [go_sem]
 refine ai E' (fun h1=>?_) (fun h1=>?_)<;>simp only [go_sem]
 ·obtain ⟨j,hj⟩:∃ j:Nat,j=l.length-1-i:=⟨_,rfl⟩
  have hj':(l.length:Int)-1-i=(j:Int):=by omega
  rw [hj']
  refine ag mixed E' fun X=>?_
  simp only [go_sem]
  have hjl:j<(dH l i).length:=by rw [sg];omega
  have hil:i<(dH l i).length:=by rw [sg];omega
  refine ⟨by omega,?_⟩
  rw [rR hjl]
  simp only [go_sem]
  refine ⟨by omega,?_⟩
  rw [rR hil]
  simp only [go_sem]
  have hji:(dH l i).getD j (0,0)=l.getD j (0,0):=by
   rw [sS (by omega)]
   rw [if_neg (by omega)]
  have hii:(dH l i).getD i (0,0)=l.getD i (0,0):=by
   rw [sS (by omega)]
   rw [if_neg (by omega)]
  have hst:=x5 (l:=l) (i:=i) (by omega)
  rw [← hj] at hst
  refine ⟨⟨by omega,by omega⟩,⟨by omega,by omega⟩,by decide +kernel,⟨i+1,by omega⟩,by show l.length-(i+1)<_;omega,⟨by rw [ab ⟨by omega,by omega⟩];rfl,?_⟩,?_⟩
  ·rw [ab ⟨by omega,by omega⟩]
   exact congrArg (fun z=>AV.d (i64 z)) (by show (j:Int)-1=(l.length:Int)-1-((i+1:Nat):Int);omega)
  ·rw [hji,hii]
   show some (Ob.arr (some 2) (((List.map bu (dH l i)).set i (bu (l.getD j (0,0)))).set j (bu (l.getD i (0,0)))))=some (Ob.arr (some 2) (List.map bu (dH l (i+1))))
   rw [← hst,List.map_set,List.map_set]
 ·refine ⟨_,_,[38],id,⟨rfl,rfl⟩,?_⟩
  simp only [go_sem]
  rw [Ap (by omega)]
end Go.Proofs.YthfodompfpdmgaaGreatDoor

namespace Go.Proofs.YthfodompfpdmgaaGreatDoor
open Go.Ab
def spK:Spot→D:=keP .i64 .i64
def spV:Spot→Value:=kvP .i64 .i64
def wc (t:Option TypeDesc):Bool:=match t with
 | some (.struct ⟨[f0,f1]⟩)=>f0.offset == 0 && f1.offset == 1 && f0.type == 3 && f1.type == 3
 | _=>false
theorem qm:∀ {t:Option TypeDesc},wc t=true→∃ f0 f1:Field,t=some (.struct #[f0,f1])∧f0.offset=0∧f1.offset=1∧f0.type=3∧f1.type=3
 | some (.struct ⟨[f0,f1]⟩),h=>by
   simp only [wc,Bool.and_eq_true,beq_iff_eq] at h
   exact ⟨f0,f1,rfl,h.1.1.1,h.1.1.2,h.1.2,h.2⟩
theorem Fy:∃ f0 f1:Field,Tryz.prog.underlying 137=some (.struct #[f0,f1])∧f0.offset=0∧f1.offset=1∧f0.type=3∧f1.type=3 :=
 qm (by kernel_rfl)
theorem uP:fJ Tryz.prog 137 spK spV:=by
 obtain ⟨f0,f1,h,h0,h1,h2,h3⟩:=Fy
 exact CA h h0 h1 (by rw [h2,ti3]) (by rw [h3,ti3]) (by kernel_rfl) (by rw [Ea,h2,h3])
theorem lr {κ:Type} [DecidableEq κ] (a b:κ) (d:D):∀ ms:List (κ × D),mlook (mset ms a d) b=if b=a then some d else mlook ms b
 | []=>by
   simp only [mset,mlook]
   by_cases e:a=b
   ·rw [if_pos e,if_pos e.symm]
   ·rw [if_neg e,if_neg (fun h=>e h.symm)]
 | q::r=>by
   simp only [mset]
   split
   ·rename_i e
    simp only [mlook]
    by_cases e2:a=b
    ·rw [if_pos e2,if_pos e2.symm]
    ·rw [if_neg e2,if_neg (fun h=>e2 h.symm),if_neg (fun h=>e2 (e.symm.trans h))]
   ·rename_i e
    simp only [mlook,lr a b d r]
    by_cases e2:q.1=b
    ·rw [if_pos e2,if_neg (fun h=>e (e2.trans h)),if_pos e2]
    ·rw [if_neg e2,if_neg e2]
theorem Fq:gA Tryz.prog 4=some (.bool false):=by kernel_rfl
def okS (ns:List TN) (s:Spot):Prop:=(0≤s.1∧s.1<ns.length)∧(s.2=1∨s.2=2)
def kY (ns:List TN):Prop:=∀ i,i<ns.length→(∀ x∈ay (nd ns i),0≤x∧x<ns.length)∧(ay (nd ns i)).length≤30
def univ (N:Nat):List Spot:=(List.range N).flatMap fun (i:Nat)=>[((i:Int),(1:Int)),((i:Int),(2:Int))]
theorem nT:∀ N,(univ N).length=2*N
 | 0=>rfl
 | N+1=>by
   have:=nT N
   unfold univ at this ⊢
   rw [List.range_succ,List.flatMap_append,List.length_append,this]
   simp
   omega
theorem jG {ns:List TN} {s:Spot} (h:okS ns s):s∈univ ns.length:=by
 obtain ⟨a,b⟩:=s
 obtain ⟨⟨h1,h2⟩,h3⟩:=h
 simp only at h1 h2 h3
 refine List.mem_flatMap.2 ⟨a.toNat,List.mem_range.2 (by omega),?_⟩
 have:((a.toNat:Nat):Int)=a:=by omega
 rw [this]
 rcases h3 with rfl | rfl<;>simp
theorem vL {s:Int} (h:s=1∨s=2):jb s=1∨jb s=2:=by
 rcases h with rfl | rfl
 ·exact .inr rfl
 ·exact .inl rfl
theorem vu {ns:List TN} (hk:kY ns) {s:Spot} (h:okS ns s):∀ t∈bQ ns s,okS ns t:=by
 intro t ht
 obtain ⟨⟨h1,h2⟩,h3⟩:=h
 obtain ⟨j,hj,rfl⟩:=List.mem_map.1 ht
 have hj:=List.mem_range.1 hj
 have hx:=(hk s.1.toNat (by omega)).1 _ (List.getElem_mem hj)
 rw [dS hj] at hx
 refine ⟨hx,?_⟩
 simp only [eY]
 split
 ·exact vL h3
 ·exact h3
theorem xQ (ns:List TN) (s:Spot):(bQ ns s).length=(ay (nd ns s.1.toNat)).length:=by simp [bQ,cY]
structure Sp (ns:List TN) (root:Int) (out td:List Spot) (ms:List (Spot × D)):Prop where
 htd:∀ s∈td,okS ns s
 hout:∀ s∈out,okS ns s
 hms:∀ s:Spot,mlook ms s=if s∈out then some (.bool true) else none
 hgo:∀ r,Dfs (bQ ns) out td r→Dfs (bQ ns) [] [(root,1)] r
 hlen:unseen (univ ns.length) out+out.length≤2*ns.length
 hfew:td.length+40*unseen (univ ns.length) out≤80*ns.length+1
theorem Sp.init {ns:List TN} {root:Int} (h:0≤root∧root<ns.length):Sp ns root [] [(root,1)] []:=by
 have hu:unseen (univ ns.length) ([]:List Spot)≤2*ns.length:=by
  have:=List.countP_le_length (p:=fun x:Spot=>!decide (x∈([]:List Spot))) (l:=univ ns.length)
  rw [nT] at this
  exact this
 refine ⟨fun s hs=>?_,by simp,fun s=>rfl,fun _ h=>h,by simpa using hu,by simp;omega⟩
 rw [List.mem_singleton.1 hs]
 exact ⟨h,.inl rfl⟩
theorem Sp.skip {ns:List TN} {root:Int} {out td:List Spot} {s:Spot} {ms:List (Spot × D)} (h:Sp ns root out (td++[s]) ms) (hs:s∈out):Sp ns root out td ms:=by
 refine ⟨fun a ha=>h.htd a (List.mem_append_left _ ha),h.hout,h.hms,fun r hr=>h.hgo r (.skip hs hr),h.hlen,?_⟩
 have:=h.hfew
 rw [List.length_append] at this
 simp only [List.length_cons,List.length_nil] at this
 omega
theorem Sp.zC {ns:List TN} {root:Int} {out td:List Spot} {s:Spot} {ms:List (Spot × D)} (hk:kY ns) (h:Sp ns root out (td++[s]) ms):(bQ ns s).length≤30:=by
 have hok:okS ns s:=h.htd s (by simp)
 rw [xQ]
 exact (hk _ (by obtain ⟨⟨h1,h2⟩,_⟩:=hok;omega)).2
theorem Sp.lt {ns:List TN} {root:Int} {out td:List Spot} {s:Spot} {ms:List (Spot × D)} (h:Sp ns root out (td++[s]) ms) (hs:s ∉ out):unseen (univ ns.length) (out++[s])<unseen (univ ns.length) out :=
 ft hs (jG (h.htd s (by simp)))
theorem Sp.take {ns:List TN} {root:Int} {out td:List Spot} {s:Spot} {ms:List (Spot × D)} (hk:kY ns) (h:Sp ns root out (td++[s]) ms) (hs:s ∉ out):Sp ns root (out++[s]) (td++(bQ ns s).reverse) (mset ms s (.bool true)):=by
 have hok:okS ns s:=h.htd s (by simp)
 have hlt:=h.lt hs
 have hkl:=h.zC hk
 refine ⟨fun a ha=>?_,fun a ha=>?_,fun a=>?_,fun r hr=>h.hgo r (.take hs hr),?_,?_⟩
 ·rcases List.mem_append.1 ha with ha | ha
  ·exact h.htd a (List.mem_append_left _ ha)
  ·exact vu hk hok a (List.mem_reverse.1 ha)
 ·rcases List.mem_append.1 ha with ha | ha
  ·exact h.hout a ha
  ·rw [List.mem_singleton.1 ha];exact hok
 ·rw [lr,h.hms]
  by_cases e:a=s
  ·subst e;simp
  ·simp [e]
 ·have:=h.hlen
  rw [List.length_append]
  simp only [List.length_cons,List.length_nil]
  omega
 ·have:=h.hfew
  rw [List.length_append] at this
  rw [List.length_append,List.length_reverse]
  simp only [List.length_cons,List.length_nil] at this
  omega
theorem DY {α:Type} {l:List α} (h:0<l.length):∃ l' x,l=l'++[x]:=by
 refine ⟨l.dropLast,l.getLast (fun e=>by subst e;simp at h),?_⟩
 exact (List.dropLast_concat_getLast _).symm
theorem FY {G} (ns:List TN) (root:Int) (hN:ns.length≤2000) (hfl:∀ n∈ns,n.l.length≤1000000) (hk:kY ns) (hr:0≤root∧root<ns.length) :
  HP Tryz.prog G 82 [aF ns root] (fun r=>∃ l,r=.d (.sl (some 2) (l.map bu))∧Dfs (bQ ns) [] [(root,1)] l∧(∀ s∈l,okS ns s)∧l.length≤2*ns.length):=by
 unfold aF
 refine aP Tryz.func82 rfl (by decide +kernel) (by simp [Tryz.ntmps82]) (veil fun E=>?_)
 simp only [go_sem]
 refine kE E (by simp only [go_sem]) (by rw [aa];decide) ?_
 simp only [go_sem]
 refine bL E [1] (.agg [.sl (some 4) (ns.map ah),i64 root]) rfl rfl ?_
 simp only [go_sem]
 refine fZ E 4 98 (some 2) rfl (by rw [aa];decide) ?_
 simp only [go_sem]
 refine au E (X:={ x:List Spot × List Spot × List Spot × List (Spot × D) // Sp ns root x.1 x.2.1 x.2.2.2 }) (fun x=>[(1,.d (.ptr (.agg [.sl (some 4) (ns.map ah),i64 root]))),(3,.mp [8]),(4,.vw [98] 0 x.1.1.length),(5,.vw [99] 0 x.1.2.1.length)])
  (fun x=>[([8],.map (menc spK x.1.2.2.2)),([98],.arr (some 2) (x.1.1.map bu)),([99],.arr (some 2) ((x.1.2.1++x.1.2.2.1).map bu))]) [8,98,99] (fun x=>x.1.2.1.length+40*unseen (univ ns.length) x.1.1) ⟨([],[(root,1)],[],[]),.init hr⟩ (tau [([99],[12])]) ?_ ?_
 ·simp only [go_sem]
  rfl
 rintro ⟨⟨out,td,rest,ms⟩,hsp⟩ E0
 refine aR E0 fun Q' hQ E'=>?_
 simp only at hsp ⊢
 simp only [go_sem]
 refine ai E' (fun h1=>?_) (fun h1=>?_)<;>simp only [go_sem]
 ·obtain ⟨td,⟨s1,side⟩,rfl⟩:=DY (l:=td) (by omega)
  have hok:okS ns (s1,side):=hsp.htd _ (by simp)
  obtain ⟨x,rfl⟩:∃ x:Nat,s1=(x:Int):=⟨s1.toNat,by have:=hok.1.1;simp only at this;omega⟩
  have hxl:x<ns.length:=by have:=hok.1.2;simp only at this;omega
  have hks:bQ ns ((x:Int),side)=cY (nd ns x) side:=rfl
  have hkl:=hsp.zC hk
  rw [hks] at hkl
  have hfew:=hsp.hfew
  have hlt:(td++[((x:Int),side)]).length=td.length+1:=by simp
  have hw:w64 (((td++[((x:Int),side)]).length:Int)-1)=(td.length:Int):=by rw [ab ⟨by omega,by omega⟩];omega
  rw [hw]
  refine ⟨by omega,?_⟩
  have hx:(List.map bu (td++[((x:Int),side)]++rest)).getD (td.length:Int).toNat .nilp=.agg [i64 x,i64 side]:=by simp [bu]
  rw [hx]
  simp only [go_sem]
  rw [hw]
  refine ⟨by omega,?_⟩
  refine mU E' [8] ms ((x:Int),side) (.bool false) (by rw [yy]) uP Fq rfl rfl rfl (by simp) ?_
  rw [hsp.hms]
  by_cases hm:((x:Int),side)∈out
  ·rw [if_pos hm]
   simp only [go_sem]
   rw [hQ]
   simp only [go_sem]
   refine ⟨⟨(out,td,((x:Int),side)::rest,ms),hsp.skip hm⟩,?_,id,?_⟩
   ·show td.length+_<(td++[((x:Int),side)]).length+_
    rw [hlt]
    show td.length+40*unseen (univ ns.length) out<_
    omega
   simp only [go_sem]
   simp
  ·rw [if_neg hm]
   simp only [go_sem]
   refine gz E' [8] ms ((x:Int),side) (.bool true) (by rw [yy]) uP rfl rfl rfl rfl rfl ?_
   simp only [go_sem]
   refine ⟨?_,?_⟩
   ·have:=hsp.hlen
    omega
   refine bn E' [.d (aF ns root),.d (.agg [i64 x,i64 side])] [] [] (Dt ns root x side hxl hfl) rfl rfl ⟨by simp only [go_sem],by rw [aa];decide⟩ rfl (by simp only [go_sem]) (by simp only [go_sem]) ?_
   rintro _ _ ⟨rfl,rfl⟩
   simp only [go_sem]
   refine bn E' [.vw [38,0] 0 (cY (nd ns x) side).length] [([38,0],.arr (some 2) ((cY (nd ns x) side).map bu))] [38] (De _ (by omega)) rfl rfl ⟨by simp only [go_sem],by rw [aa];decide⟩ rfl (by simp only [go_sem]) (by simp only [go_sem]) ?_
   rintro _ _ ⟨rfl,rfl⟩
   simp only [go_sem]
   have hrl:(List.take (cY (nd ns x) side).length (List.map bu (cY (nd ns x) side).reverse))=List.map bu (cY (nd ns x) side).reverse:=List.take_of_length_le (by simp)
   have htl:List.take (td.length-0) (List.map bu (td++[((x:Int),side)]++rest))=List.map bu td:=by
    rw [Nat.sub_zero,List.append_assoc,List.map_append,List.take_append_of_le_length (by simp),List.take_of_length_le (by simp)]
   rw [hrl,htl,hQ]
   simp only [go_sem]
   have htk:=hsp.take hk hm
   have hlt2:=hsp.lt hm
   refine ⟨by simp,?_,⟨(out++[((x:Int),side)],td++(bQ ns ((x:Int),side)).reverse,[],mset ms ((x:Int),side) (.bool true)),htk⟩,?_,tau [([98],[35]),([99],[43])],?_⟩
   ·simp only [List.length_map,List.length_reverse]
    omega
   ·show (td++(bQ ns ((x:Int),side)).reverse).length+40*unseen (univ ns.length) (out++[((x:Int),side)])<(td++[((x:Int),side)]).length+40*unseen (univ ns.length) out
    rw [hks,List.length_append,List.length_reverse]
    omega
   simp only [go_sem]
   rw [hks]
   simp [bu]
 ·rw [hQ]
  simp only [go_sem]
  have:td=[]:=List.eq_nil_of_length_eq_zero (by omega)
  subst this
  refine ⟨[([98],some 2,out.map bu)],?_⟩
  simp only [go_sem]
  exact ⟨out,rfl,hsp.hgo _ (.done _),hsp.hout,by have:=hsp.hlen;omega⟩
end Go.Proofs.YthfodompfpdmgaaGreatDoor

