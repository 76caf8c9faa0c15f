/-
  A tree's text is read as its tokens. (with the parts that follow it)
-/
import Derived.Test.YtejpnabbmgpmaaaGreatDoorWSI
import Derived.Test.YtejpnabbmgpmaaaGreatDoorWSH
import Derived.Test.YtejpnabbmgpmaaaGreatDoorWSF
import Derived.Test.YtejpnabbmgpmaaaGreatDoorWSG
import Derived.Lib.MakeNoZero
set_option linter.all false
namespace Go.Proofs.YtejpnabbmgpmaaaGreatDoor
open Go.Ab
def fN (n:Nat):UInt8:=iv.getD n 0
def quC (c:UInt8):List UInt8:=if fZ c then [c] else if c=34∨c=92 then [92,c] else if c=10 then [92,110] else if c=9 then [92,116] else [92,120,fN (c.toNat / 16),fN (c.toNat % 16)]
def quS (s:List UInt8):List UInt8:=34::(s.flatMap quC++[34])
def ttxt (t:Tk):List UInt8:=if t.k=4 then bB t.n else if t.k=5 then quS t.s else t.s
def txP:List Pc→List UInt8
 | []=>[]
 | .sp::r=>32::txP r
 | .tok t::r=>ttxt t++txP r
theorem aP:∀ a b:List Pc,txP (a++b)=txP a++txP b
 | [],_=>rfl
 | .sp::r,b=>by rw [List.cons_append,txP,aP r b,txP];rfl
 | .tok t::r,b=>by rw [List.cons_append,txP,aP r b,txP,List.append_assoc]
theorem qF (p:UInt8→Bool) (h:(List.range 256).all (fun n=>p (UInt8.ofNat n))=true) (c:UInt8):p c=true:=by
 have:=List.all_eq_true.1 h c.toNat (List.mem_range.2 c.toNat_lt)
 simpa using this
theorem JJ (c:UInt8):Lib.indexByte iv (fN (c.toNat / 16))=((c.toNat / 16:Nat):Int)∧Lib.indexByte iv (fN (c.toNat % 16))=((c.toNat % 16:Nat):Int):=by
 have:=qF (fun c=>decide (Lib.indexByte iv (fN (c.toNat / 16))=((c.toNat / 16:Nat):Int)) && decide (Lib.indexByte iv (fN (c.toNat % 16))=((c.toNat % 16:Nat):Int))) (by decide +kernel) c
 simpa using this
theorem Hn {c:UInt8} (h:fZ c=false) (x:List UInt8):∃ y,quC c=92::y∧fK (y++x)=(c,y.length)∧0<y.length:=by
 unfold quC
 rw [h,if_neg (by decide)]
 split
 ·rename_i h1
  exact ⟨[c],rfl,by show (if c=34∨c=92 then ((c,1):UInt8 × Nat) else _)=_;exact if_pos h1,by simp⟩
 rename_i h1
 split
 ·rename_i h2
  subst h2
  exact ⟨[110],rfl,rfl,by simp⟩
 split
 ·rename_i h2
  subst h2
  exact ⟨[116],rfl,rfl,by simp⟩
 ·refine ⟨[120,fN (c.toNat / 16),fN (c.toNat % 16)],rfl,?_,by simp⟩
  obtain ⟨e1,e2⟩:=JJ c
  simp only [List.cons_append,List.nil_append]
  rw [fK,if_neg (by decide),if_neg (by decide),if_neg (by decide),if_pos rfl]
  rw [e1,e2,if_neg (by omega)]
  have:(16*((c.toNat / 16:Nat):Int)+((c.toNat % 16:Nat):Int)).toNat=c.toNat:=by omega
  rw [this,UInt8.ofNat_toNat]
  rfl
theorem sG (r:List UInt8):∀ (s:List UInt8) (m i:Nat) (acc:List UInt8),s.length<m→acc.length+s.length≤200→de m (s.flatMap quC++34::r) i acc=(acc++s,i+(s.flatMap quC).length+1,0)
 | [],m,i,acc,hm,h2=>by
   obtain ⟨m,rfl⟩:∃ q,m=q+1:=⟨m-1,by omega⟩
   simp only [List.length_nil,Nat.add_zero] at h2
   rw [List.flatMap_nil,List.nil_append,de,if_pos rfl,if_neg (by omega),List.append_nil]
   rfl
 | c::s,m,i,acc,hm,h2=>by
   obtain ⟨m,rfl⟩:∃ q,m=q+1:=⟨m-1,by omega⟩
   simp only [List.length_cons] at hm h2
   rw [List.flatMap_cons,List.append_assoc]
   by_cases hp:fZ c=true
   ·have e:quC c=[c]:=by unfold quC;rw [if_pos hp]
    have h34:c≠34∧c≠92:=by
     constructor<;>(intro h;rw [h] at hp;exact absurd hp (by decide))
    rw [e,List.cons_append,List.nil_append,de,if_neg h34.1,if_neg h34.2,if_pos hp,sG r s m (i+1) (acc++[c]) (by omega) (by simp only [List.length_append,List.length_singleton];omega)]
    simp only [List.length_append,List.length_cons,List.append_assoc,List.singleton_append,Prod.mk.injEq,true_and,and_true]
    omega
   ·have hp:fZ c=false:=by simpa using hp
    obtain ⟨y,e,he,hy⟩:=Hn hp (s.flatMap quC++34::r)
    rw [e,List.cons_append,de,if_neg (by decide),if_pos rfl,he]
    simp only
    rw [if_neg (by omega),List.drop_left,sG r s m _ (acc++[c]) (by omega) (by simp only [List.length_append,List.length_singleton];omega)]
    simp only [List.length_append,List.length_cons,List.append_assoc,List.singleton_append,Prod.mk.injEq,true_and,and_true]
    omega
theorem FK (c:UInt8):1≤(quC c).length:=by
 unfold quC
 (repeat' split)<;>simp
theorem xu:∀ s:List UInt8,s.length≤(s.flatMap quC).length
 | []=>Nat.zero_le _
 | c::s=>by
   have:=FK c
   have:=xu s
   rw [List.flatMap_cons,List.length_append,List.length_cons]
   omega
theorem FT {s:List UInt8} (h:s.length≤200) (r:List UInt8):cX (quS s++r)=(s,(quS s).length,0):=by
 unfold quS
 rw [List.cons_append,cX,if_pos rfl,List.append_assoc]
 have hq:=xu s
 rw [List.singleton_append,sG r s _ 1 [] (by simp only [List.length_append,List.length_cons];omega) (by simpa using h)]
 simp only [List.nil_append,List.length_cons,List.length_append,List.length_nil,Prod.mk.injEq,true_and,and_true]
 omega
def vL (r:List UInt8):Prop:=∀ c y,r=c::y→mo c=false
theorem u9:∀ {s r:List UInt8},wlen s=s.length→vL r→wlen (s++r)=s.length
 | [],[],_,_=>rfl
 | [],c::y,_,h=>by rw [List.nil_append,wlen,h c y rfl];rfl
 | c::s,r,hs,h=>by
   rw [wlen] at hs
   split at hs
   ·rename_i hc
    rw [List.cons_append,wlen,if_pos hc,u9 (by simpa using hs) h,List.length_cons]
   ·cases hs
theorem BJ {s r:List UInt8} (hs:ba s=true) (h:vL r):bo (s++r)=s.length:=by
 unfold ba at hs
 simp only [Bool.and_eq_true,decide_eq_true_eq,Bool.not_eq_true',List.isEmpty_eq_false_iff] at hs
 obtain ⟨⟨h1,h2⟩,h3⟩:=hs
 cases s with
 | nil=>exact absurd rfl h1
 | cons c s =>
   unfold bo at h3 ⊢
   simp only [List.cons_append] at h3 ⊢
   split at h3
   ·rename_i hc
    rw [if_pos hc,u9 (by simpa using h3) h,List.length_cons]
   ·cases h3
def OkT (t:Tk):Prop :=
 (t.k=1∧ba t.s=true∧ph t.s=true∧t.n=0)∨(t.k=2∧bD t.s=true∧t.n=0)∨(t.k=3∧dQ t.s=true∧ph t.s=false∧t.n=0)∨(t.k=4∧t.s=[]∧inR t.n)∨(t.k=5∧t.s.length≤200∧t.n=0) ∨
  (t.k=7∧t.s∈([[40],[41],[44],[46],[61],[123],[125],[124],[45,62],[43],[45],[42],[47],[60],[61,61],[94]]:List (List UInt8))∧t.n=0)
def found (t:Tk):Fnd:=⟨⟨t.k,t.s,t.n,0⟩,(ttxt t).length,0⟩
theorem nZ {s r:List UInt8} (hs:ba s=true) (h:vL r):bL (s++r)=ji (s++r) s.length:=by
 have hw:=BJ hs h
 unfold ba at hs
 simp only [Bool.and_eq_true,decide_eq_true_eq,Bool.not_eq_true',List.isEmpty_eq_false_iff] at hs
 have:0<s.length:=List.length_pos_iff.2 hs.1.1
 unfold bL
 rw [hw,if_pos this]
theorem cE {s:List UInt8} (hs:ba s=true):s.length≤20∧1≤s.length:=by
 unfold ba at hs
 simp only [Bool.and_eq_true,decide_eq_true_eq,Bool.not_eq_true',List.isEmpty_eq_false_iff] at hs
 exact ⟨hs.1.2,List.length_pos_iff.2 hs.1.1⟩
theorem Ls {c:UInt8} (h:sm c=true):gr c=false:=by
 unfold sm smZ at h
 unfold gr grZ
 simp only [Bool.or_eq_true,Bool.and_eq_true,decide_eq_true_eq] at h
 rw [Bool.and_eq_false_iff,decide_eq_false_iff_not,decide_eq_false_iff_not]
 omega
theorem sZ:∀ {s r:List UInt8},s.all a8=true→vL r→je (s++r)=s.length
 | [],[],_,_=>rfl
 | [],c::y,_,h=>by
   have h1:=h c y rfl
   have:a8 c=false:=by
    unfold mo at h1
    simp only [Bool.or_eq_false_iff] at h1
    unfold a8
    have:=h1.2
    unfold diZ at this
    rw [Bool.and_eq_false_iff,decide_eq_false_iff_not,decide_eq_false_iff_not] at this ⊢
    omega
   rw [List.nil_append,je,this];rfl
 | c::s,r,hs,h=>by
   rw [List.all_cons,Bool.and_eq_true] at hs
   rw [List.cons_append,je,if_pos hs.1,sZ hs.2 h,List.length_cons]
theorem Ic {c:UInt8} (h:a8 c=true):(sm c || gr c)=false∧c≠39:=by
 have:=qF (fun c=>!a8 c || (!(sm c || gr c) && decide (c≠39))) (by decide +kernel) c
 rw [h] at this
 simp only [Bool.not_true,Bool.false_or,Bool.and_eq_true,Bool.not_eq_true',decide_eq_true_eq] at this
 exact this
theorem Ad {n:Int} (hn:inR n):wg (bB n)=(n,0):=by
 have h:=uh hn
 unfold jl cz at h
 unfold wg ql
 split at h<;>rename_i hp
 ·rw [if_pos hp]
  simp only [AV.tup.injEq,List.cons.injEq,AV.d.injEq,D.int.injEq,true_and,and_true] at h
  obtain ⟨h1,h2⟩:=h
  split at h1<;>rename_i hq
  ·rw [if_pos hq]
   simp at h1 ⊢
   exact h1
  ·rw [if_neg hq] at h2
   exact absurd h2 (by decide)
 ·rw [if_neg hp]
  simp only [AV.tup.injEq,List.cons.injEq,AV.d.injEq,D.int.injEq,true_and,and_true] at h
  obtain ⟨h1,h2⟩:=h
  split at h1<;>rename_i hq
  ·rw [if_pos hq]
   simp at h1 ⊢
   exact h1
  ·rw [if_neg hq] at h2
   exact absurd h2 (by decide)
theorem nS (u:Nat):(Lib.decDigits u).all a8=true∧1≤(Lib.decDigits u).length:=by
 refine ⟨(mJ u).2.1,?_⟩
 by_cases h:u<10
 ·rw [rF u h];exact Nat.le_refl _
 ·rw [u1 u h,List.length_append];simp
theorem GN {n:Int} (hn:inR n) {r:List UInt8} (h:vL r):bL (bB n++r)=⟨⟨4,[],n,0⟩,(bB n).length,0⟩:=by
 have hp:=Ad hn
 obtain ⟨c,y,hc,hy,hd⟩:∃ c y,bB n=c::y∧y.all a8=true∧(a8 c=true∨c=126):=by
  unfold bB
  split
  ·exact ⟨126,_,rfl,(nS _).1,.inr rfl⟩
  ·obtain ⟨h1,h2⟩:=nS n.toNat
   cases hx:Lib.decDigits n.toNat with
   | nil=>rw [hx] at h2;simp at h2
   | cons c y =>
     rw [hx,List.all_cons,Bool.and_eq_true] at h1
     exact ⟨c,y,rfl,h1.2,.inl h1.1⟩
 have hno:(sm c || gr c)=false∧c≠39:=by
  rcases hd with h | h
  ·exact Ic h
  ·rw [h];decide
 rw [hc] at hp ⊢
 have hdr:((c::y)++r).drop 1=y++r:=rfl
 have hdg:=sZ hy h
 have htk:((c::y)++r).take (y.length+1)=c::y:=by
  rw [List.cons_append,List.take_succ_cons,List.take_left]
 unfold bL
 have hw:bo ((c::y)++r)=0:=by
  unfold bo
  simp only [List.cons_append]
  rw [hno.1,if_neg (by decide)]
 rw [hw,if_neg (by decide)]
 have hg:((c::y)++r).getD 0 0=c:=rfl
 rw [hg,if_neg hno.2,if_pos (by rcases hd with h | h<;>simp [h])]
 unfold Ax
 rw [hdr,hdg,htk,hp]
 rfl
def od (c:UInt8):Bool:=!(sm c || gr c) && decide (c≠39) && !(a8 c || decide (c=126)) && decide (c≠34) && decide (0≤Lib.indexByte xh c)
theorem sC {a c:UInt8} {p r:List UInt8} (h:c≠a):aS (c::r) (a::p)=false:=by
 unfold aS
 rw [List.length_cons,List.take_succ_cons]
 have:(c::List.take p.length r == a::p)=false:=by
  rw [beq_eq_false_iff_ne]
  intro e
  exact h (List.cons.inj e).1
 rw [this,Bool.and_false]
theorem H7 {a b c:UInt8} {p r:List UInt8} (h:c≠b):aS (a::c::r) (a::b::p)=false:=by
 unfold aS
 rw [List.length_cons,List.length_cons,List.take_succ_cons,List.take_succ_cons]
 have:(a::c::List.take p.length r == a::b::p)=false:=by
  rw [beq_eq_false_iff_ne]
  intro e
  exact h (List.cons.inj (List.cons.inj e).2).1
 rw [this,Bool.and_false]
theorem nR {c:UInt8} {r:List UInt8} (hk:od c=true):bL (c::r)=iZ (c::r):=by
 unfold od at hk
 simp only [Bool.and_eq_true,Bool.not_eq_true',decide_eq_true_eq] at hk
 obtain ⟨⟨⟨⟨h1,h2⟩,h3⟩,h4⟩,h5⟩:=hk
 have hw:bo (c::r)=0:=by
  unfold bo
  simp only
  rw [h1,if_neg (by decide)]
 have hg:(c::r).getD 0 0=c:=rfl
 unfold bL
 rw [hw,hg,if_neg (by decide),if_neg h2,h3,if_neg (by decide),if_neg h4]
theorem KC {c:UInt8} {r:List UInt8} (hk:od c=true) (h:c=45∨c=61→∃ y,r=32::y):bL ([c]++r)=⟨⟨7,[c],0,0⟩,[c].length,0⟩:=by
 rw [List.singleton_append,nR hk]
 have hp:(aS (c::r) [45,62] || aS (c::r) [61,61])=false:=by
  by_cases h1:c=45
  ·obtain ⟨y,rfl⟩:=h (.inl h1)
   subst h1
   rw [H7 (by decide),sC (by decide)];rfl
  ·by_cases h2:c=61
   ·obtain ⟨y,rfl⟩:=h (.inr h2)
    subst h2
    rw [H7 (by decide),sC (by decide)];rfl
   ·rw [sC h1,sC h2];rfl
 unfold od at hk
 simp only [Bool.and_eq_true,decide_eq_true_eq] at hk
 have h5:=hk.2
 have hg:(c::r).getD 0 0=c:=rfl
 unfold iZ
 rw [hp,if_neg (by decide),hg,if_neg (by omega)]
 rfl
theorem H3 {w r:List UInt8} (h:(w=[45,62]∧w=[45,62])∨(w=[61,61]∧w=[61,61])):bL (w++r)=⟨⟨7,w,0,0⟩,w.length,0⟩:=by
 have pre_y:∀ a b:UInt8,aS (a::b::r) [a,b]=true:=fun a b=>by
  unfold aS
  simp
 rcases h with ⟨h,_⟩ | ⟨h,_⟩
 ·subst h
  show bL (45::62::r)=_
  rw [nR (by decide)]
  unfold iZ
  rw [pre_y,Bool.true_or,if_pos rfl]
  rfl
 ·subst h
  show bL (61::61::r)=_
  rw [nR (by decide)]
  unfold iZ
  rw [pre_y,Bool.or_true,if_pos rfl]
  rfl
theorem Fb {t:Tk} (ht:OkT t) {r:List UInt8} (hw:t.k=1∨t.k=2∨t.k=3∨t.k=4→vL r) (hs:t.k=7→t.s=[45]∨t.s=[61]→∃ y,r=32::y):bL (ttxt t++r)=found t:=by
 unfold found
 rcases ht with ⟨hk,h1,h2,h3⟩ | ⟨hk,h1,h3⟩ | ⟨hk,h1,h2,h3⟩ | ⟨hk,h1,h2⟩ | ⟨hk,h1,h3⟩ | ⟨hk,h1,h3⟩
 ·have e:ttxt t=t.s:=by unfold ttxt;rw [if_neg (by omega),if_neg (by omega)]
  obtain ⟨l1,l2⟩:=cE h1
  rw [e,nZ h1 (hw (by omega))]
  unfold ji
  rw [if_neg (by omega),List.take_left,if_pos h2,hk,h3]
 ·have e:ttxt t=t.s:=by unfold ttxt;rw [if_neg (by omega),if_neg (by omega)]
  unfold bD at h1
  simp only [Bool.and_eq_true,Bool.not_eq_true'] at h1
  obtain ⟨l1,l2⟩:=cE h1.1.1
  rw [e,nZ h1.1.1 (hw (by omega))]
  unfold ji
  rw [if_neg (by omega),List.take_left,h1.2,if_neg (by decide),Ls h1.1.2,if_neg (by decide),hk,h3]
 ·have e:ttxt t=t.s:=by unfold ttxt;rw [if_neg (by omega),if_neg (by omega)]
  unfold dQ at h1
  simp only [Bool.and_eq_true] at h1
  obtain ⟨l1,l2⟩:=cE h1.1
  rw [e,nZ h1.1 (hw (by omega))]
  unfold ji
  rw [if_neg (by omega),List.take_left,h2,if_neg (by decide),if_pos h1.2,hk,h3]
 ·have e:ttxt t=bB t.n:=by unfold ttxt;rw [if_pos hk]
  rw [e,GN h2 (hw (by omega)),hk,h1]
 ·have e:ttxt t=quS t.s:=by unfold ttxt;rw [if_neg (by omega),if_pos hk]
  have hq:=FT h1 r
  rw [e]
  have hhd:quS t.s++r=34::(t.s.flatMap quC++[34]++r):=rfl
  unfold bL
  have hw0:bo (quS t.s++r)=0:=by rw [hhd];rfl
  have hg:(quS t.s++r).getD 0 0=34:=by rw [hhd];rfl
  rw [hw0,hg,if_neg (by decide),if_neg (by decide),if_neg (by decide),if_pos rfl]
  unfold pL
  rw [hq,hk,h3]
 ·have e:ttxt t=t.s:=by unfold ttxt;rw [if_neg (by omega),if_neg (by omega)]
  rw [e,hk,h3]
  have h45:=hs hk
  generalize t.s=w at h1 h45 ⊢
  have s1:∀ c:UInt8,w=[c]→od c=true→bL (w++r)=⟨⟨7,w,0,0⟩,w.length,0⟩:=fun c hc hk=>by
   subst hc
   exact KC hk fun h=>h45 (by rcases h with h | h<;>rw [h]<;>simp)
  simp only [List.mem_cons,List.not_mem_nil,or_false] at h1
  rcases h1 with h | h | h | h | h | h | h | h | h | h | h | h | h | h | h | h
  ·exact s1 _ h (by decide)
  ·exact s1 _ h (by decide)
  ·exact s1 _ h (by decide)
  ·exact s1 _ h (by decide)
  ·exact s1 _ h (by decide)
  ·exact s1 _ h (by decide)
  ·exact s1 _ h (by decide)
  ·exact s1 _ h (by decide)
  ·subst h;exact H3 (.inl ⟨rfl,rfl⟩)
  ·exact s1 _ h (by decide)
  ·exact s1 _ h (by decide)
  ·exact s1 _ h (by decide)
  ·exact s1 _ h (by decide)
  ·exact s1 _ h (by decide)
  ·subst h;exact H3 (.inr ⟨rfl,rfl⟩)
  ·exact s1 _ h (by decide)
theorem ES (m:Nat) (x:List UInt8) (a:Nat):b8 (m+1) (32::x) a=b8 (m+1) x (a+1):=by
 have hp:aW (32::x)=aW x+1:=mY (.inl rfl)
 rw [b8,b8,hp,List.drop_succ_cons]
 rw [show a+(aW x+1)=a+1+aW x by omega]
def nxP:List Pc→Prop
 | []=>True
 | .sp::_=>True
 | .tok t::_=>t.k=7
def iw:List Pc→Prop
 | []=>True
 | .sp::r=>iw r
 | .tok t::r=>((t.k=7→t.s=[45]∨t.s=[61]→∃ y,r=.sp::y)∧(t.k=1∨t.k=2∨t.k=3∨t.k=4→nxP r))∧iw r
theorem zt {w:List UInt8} (h:w∈([[40],[41],[44],[46],[61],[123],[125],[124],[45,62],[43],[45],[42],[47],[60],[61,61],[94]]:List (List UInt8))):∃ c y,w=c::y∧mo c=false:=by
 simp only [List.mem_cons,List.not_mem_nil,or_false] at h
 rcases h with h | h | h | h | h | h | h | h | h | h | h | h | h | h | h | h
 all_goals
  subst h
  exact ⟨_,_,rfl,by decide⟩
theorem Lt {P:List Pc} (h:nxP P) (hok:∀ t∈tkP P,OkT t):vL (txP P):=by
 intro c y e
 match P,h with
 | [],_=>cases e
 | .sp::r,_ =>
   rw [txP] at e
   cases e
   decide
 | .tok t::r,h =>
   have h7:t.k=7:=h
   have ht:=hok t (by rw [cn];exact List.mem_cons_self)
   rcases ht with ⟨hk,_⟩ | ⟨hk,_⟩ | ⟨hk,_⟩ | ⟨hk,_⟩ | ⟨hk,_⟩ | ⟨hk,h1,h3⟩
   ·omega
   ·omega
   ·omega
   ·omega
   ·omega
   ·obtain ⟨c',y',e',hm⟩:=zt h1
    have e2:ttxt t=t.s:=by unfold ttxt;rw [if_neg (by omega),if_neg (by omega)]
    rw [txP,e2,e'] at e
    cases e
    exact hm
theorem Ae {t:Tk} (ht:OkT t):∃ c y,ttxt t=c::y∧¬ (c=32∨c=9∨c=10)∧¬ c=35:=by
 have hl:∀ c:UInt8,(sm c || gr c)=true→¬ (c=32∨c=9∨c=10)∧¬ c=35:=fun c hc=>by
  have:=qF (fun c=>!(sm c || gr c) || (!(decide (c=32∨c=9∨c=10)) && !decide (c=35))) (by decide +kernel) c
  rw [hc] at this
  simpa using this
 have hw:∀ s:List UInt8,ba s=true→∃ c y,s=c::y∧¬ (c=32∨c=9∨c=10)∧¬ c=35:=fun s hs=>by
  unfold ba at hs
  simp only [Bool.and_eq_true,decide_eq_true_eq,Bool.not_eq_true',List.isEmpty_eq_false_iff] at hs
  cases s with
  | nil=>exact absurd rfl hs.1.1
  | cons c y =>
    refine ⟨c,y,rfl,hl c ?_⟩
    have h3:=hs.2
    unfold bo at h3
    simp only at h3
    split at h3
    ·assumption
    ·cases h3
 rcases ht with ⟨hk,h1,h2,h3⟩ | ⟨hk,h1,h3⟩ | ⟨hk,h1,h2,h3⟩ | ⟨hk,h1,h2⟩ | ⟨hk,h1,h3⟩ | ⟨hk,h1,h3⟩
 ·rw [show ttxt t=t.s by unfold ttxt;rw [if_neg (by omega),if_neg (by omega)]]
  exact hw _ h1
 ·rw [show ttxt t=t.s by unfold ttxt;rw [if_neg (by omega),if_neg (by omega)]]
  unfold bD at h1
  simp only [Bool.and_eq_true] at h1
  exact hw _ h1.1.1
 ·rw [show ttxt t=t.s by unfold ttxt;rw [if_neg (by omega),if_neg (by omega)]]
  unfold dQ at h1
  simp only [Bool.and_eq_true] at h1
  exact hw _ h1.1
 ·rw [show ttxt t=bB t.n by unfold ttxt;rw [if_pos hk]]
  unfold bB
  split
  ·exact ⟨_,_,rfl,by decide,by decide⟩
  ·obtain ⟨g1,g2⟩:=nS t.n.toNat
   cases hx:Lib.decDigits t.n.toNat with
   | nil=>rw [hx] at g2;simp at g2
   | cons c y =>
     rw [hx,List.all_cons,Bool.and_eq_true] at g1
     refine ⟨c,y,rfl,?_⟩
     have:=qF (fun c=>!a8 c || (!(decide (c=32∨c=9∨c=10)) && !decide (c=35))) (by decide +kernel) c
     rw [g1.1] at this
     simpa using this
 ·rw [show ttxt t=quS t.s by unfold ttxt;rw [if_neg (by omega),if_pos hk]]
  exact ⟨_,_,rfl,by decide,by decide⟩
 ·rw [show ttxt t=t.s by unfold ttxt;rw [if_neg (by omega),if_neg (by omega)]]
  generalize t.s=w at h1 ⊢
  simp only [List.mem_cons,List.not_mem_nil,or_false] at h1
  rcases h1 with h | h | h | h | h | h | h | h | h | h | h | h | h | h | h | h
  all_goals
   subst h
   exact ⟨_,_,rfl,by decide,by decide⟩
theorem qY:∀ (P:List Pc),iw P→(∀ t∈tkP P,OkT t)→∀ (m a:Nat),(txP P).length<m→(b8 m (txP P) a).map (fun q=>(⟨q.2.t.k,q.2.t.s,q.2.t.n⟩:Tk))=tkP P∧∀ q∈b8 m (txP P) a,q.2.e=0
 | [],_,_,m,a,hm=>by
   obtain ⟨m,rfl⟩:∃ q,m=q+1:=⟨m-1,by omega⟩
   rw [txP,b8,if_pos (by rw [List.drop_nil])]
   exact ⟨rfl,fun _ h=>by cases h⟩
 | .sp::r,hs,hok,m,a,hm=>by
   obtain ⟨m,rfl⟩:∃ q,m=q+1:=⟨m-1,by omega⟩
   rw [txP,List.length_cons] at hm
   rw [txP,ES,eX]
   exact qY r hs hok (m+1) (a+1) (by omega)
 | .tok t::r,hs,hok,m,a,hm=>by
   obtain ⟨m,rfl⟩:∃ q,m=q+1:=⟨m-1,by omega⟩
   rw [txP,List.length_append] at hm
   have ht:=hok t (by rw [cn];exact List.mem_cons_self)
   have hok2:∀ t∈tkP r,OkT t:=fun u hu=>hok u (by rw [cn];exact List.mem_cons_of_mem _ hu)
   obtain ⟨⟨h1,h2⟩,h3⟩:=hs
   have hone:=Fb ht (r:=txP r) (fun h=>Lt (h2 h) hok2) (fun hk hw=>by
    obtain ⟨y,rfl⟩:=h1 hk hw
    exact ⟨txP y,rfl⟩)
   obtain ⟨c,y,hc,g1,g2⟩:=Ae ht
   have hp:aW (ttxt t++txP r)=0:=by
    rw [hc,List.cons_append]
    exact qi g1 g2
   have hl:1≤(ttxt t).length:=by rw [hc];simp
   obtain ⟨k1,k2⟩:=qY r h3 hok2 m (a+0+(ttxt t).length) (by omega)
   have e:b8 (m+1) (ttxt t++txP r) a=(a+0,found t)::b8 m (txP r) (a+0+(ttxt t).length):=by
    rw [b8,hp,List.drop_zero,hone,if_neg (by rw [hc];simp),if_neg (by simp [found])]
    show (a+0,found t)::b8 m ((ttxt t++txP r).drop (ttxt t).length) _=_
    rw [List.drop_left]
    rfl
   rw [txP,e,List.map_cons,k1,cn]
   refine ⟨rfl,fun q hq=>?_⟩
   rcases List.mem_cons.1 hq with rfl | hq
   ·rfl
   ·exact k2 q hq
end Go.Proofs.YtejpnabbmgpmaaaGreatDoor

namespace Go.Proofs.YtejpnabbmgpmaaaGreatDoor
open Go.Ab
theorem nK {G} (l s:List UInt8) (hl:l.length+s.length≤1000000000):HCall Tryz.prog G 108 [.bx [0] 0,.d (.str s)] (aH l) [0,1] (fun r hp'=>r=.tup [.d (i64 (s.length:Nat)),.d .nili]∧hp'=fL (l++s)):=by
 have h0:=tM (G:=G) l
 unfold aH at *
 unfold fL
 refine ao Tryz.func108 rfl (by decide +kernel) (by simp [Tryz.ntmps108]) (veil fun E=>?_)
 simp only [go_sem]
 refine ab E [.bx [0] 0] [([0],.boxT (some 53) [.bx [0] 0,.vw [1] 0 l.length]),([1],.arrT (some 5) none (l.map byD))] [0,1] h0 rfl rfl ⟨by simp only [go_sem],by rw [aa];decide⟩ rfl (by simp only [go_sem]) (by simp only [go_sem]) ?_
 rintro _ _ ⟨rfl,rfl⟩
 simp only [go_sem]
 refine ⟨Nat.le_refl _,?_⟩
 have hlm:(l.map byD).length=l.length:=by simp
 refine qk E (d:=14) (e:=5) (some 5) [1] (l.map byD) s (by rw [BA]) (by rw [ti9]) (by rw [ti5];rfl) (by rw [ti5];rfl) (by rw [ti5];rfl) rfl ⟨by simp only [go_sem],by rw [aa];decide⟩ (by rw [hlm];rfl) rfl rfl (by rw [ti5,hlm];simp [TI.by1];omega) ?_
 rw [hlm,← List.map_append]
 simp only [go_sem]
 refine ⟨_,_,[0,1,2],tau [([2],[14])],⟨rfl,rfl⟩,?_⟩
 rw [show (l++s).length=l.length+s.length by simp]
 simp only [go_sem]
structure QpI (s:List UInt8) (i:Nat) (acc:List UInt8):Prop where
 hi:i≤s.length
 he:acc=34::(s.take i).flatMap quC
 hl:acc.length≤4*i+1
theorem QpI.init (s:List UInt8):QpI s 0 [34]:=⟨Nat.zero_le _,rfl,by simp⟩
theorem xc (c:UInt8):(quC c).length≤4:=by
 unfold quC
 split
 ·simp
 split
 ·simp
 split
 ·simp
 split<;>simp
theorem QpI.step {s:List UInt8} {i:Nat} {acc:List UInt8} (h:QpI s i acc) (hi:i<s.length):QpI s (i+1) (acc++quC (s.getD i 0)):=by
 obtain ⟨_,he,hl⟩:=h
 have hq:=xc (s.getD i 0)
 refine ⟨hi,?_,?_⟩
 ·rw [he,List.take_succ_eq_append_getElem hi,List.flatMap_append,List.getD_eq_getElem?_getD,List.getElem?_eq_getElem hi]
  simp
 ·rw [List.length_append];omega
theorem QpI.fin {s:List UInt8} {acc:List UInt8} (h:QpI s s.length acc):acc++[34]=quS s:=by
 rw [h.he,List.take_length];rfl
theorem QpI.ne {s:List UInt8} {i:Nat} {acc:List UInt8} (h:QpI s i acc):acc≠[]:=by rw [h.he];simp
theorem BQ (c:UInt8):IntKind.u8.wrap ((c.toNat:Int).tdiv 16)=((c.toNat / 16:Nat):Int):=by
 have h:∀ n:Fin 256,IntKind.u8.wrap ((n.val:Int).tdiv 16)=((n.val / 16:Nat):Int):=by decide +kernel
 exact h ⟨c.toNat,c.toNat_lt⟩
theorem CW (c:UInt8):(c.toNat:Int).tmod 16=((c.toNat % 16:Nat):Int):=by
 have h:∀ n:Fin 256,((n.val:Int).tmod 16)=((n.val % 16:Nat):Int):=by decide +kernel
 exact h ⟨c.toNat,c.toNat_lt⟩
theorem CV {G} (s:List UInt8) (hl:s.length≤200000):HP Tryz.prog G 96 [.str s] (fun r=>r=.d (.str (quS s))):=by
 refine an Tryz.func96 rfl (by decide +kernel) (by simp [Tryz.ntmps96]) (veil fun E=>?_)
 simp only [go_sem]
 refine ah E (tau [([0],[3])]) [.bx [0] 0,.d (byD 34)] dy [0] (nz 34) rfl rfl ⟨by simp only [go_sem],by rw [aa];decide⟩ rfl (by unfold dy;simp only [go_sem]) (by unfold dy;simp only [go_sem]) ?_
 rintro _ _ ⟨rfl,rfl⟩
 unfold fL dy
 simp only [go_sem]
 refine aU E (X:={ x:Nat × List UInt8 // QpI s x.1 x.2 }) (fun x=>[(0,.d (.str s)),(3,.bx [0] 0),(7,.d (.str s)),(8,.d (i64 (s.length:Nat))),(9,.d (i64 x.1.1))]) (fun x=>aH x.1.2) [0,1] (fun x=>s.length-x.1.1) ⟨(0,[34]),QpI.init s⟩ (tau [([0],[3]),([1],[6,2])]) ?_ ?_
 ·unfold aH
  simp only [go_sem]
  all_goals ((repeat' apply And.intro)<;>first | rfl | trivial)
 rintro ⟨⟨i,acc⟩,hI⟩ E0
 refine bk E0 fun Q' hQ E'=>?_
 simp only at hI ⊢
 have hi:=hI.hi
 have ha:=hI.hl
 unfold aH
 simp only [go_sem]
 refine ai E' (fun h1=>?_) (fun h1=>?_)<;>simp only [go_sem]
 ·have h1':i<s.length:=by omega
  refine ⟨by omega,?_⟩
  have hstp:=hI.step h1'
  generalize s.getD i 0=c at hstp ⊢
  refine ae E' (rb c) rfl rfl (by simp) ?_
  rintro _ rfl
  simp only [go_sem]
  refine aV E' (fun h2=>?_) (fun h2=>?_)<;>simp only [go_sem]
  ·have hq:quC c=[c]:=by unfold quC;rw [if_pos h2]
   rw [hq] at hstp
   refine ab E' [.bx [0] 0,.d (byD c)] (aH acc) [0,1] (dh acc c (by omega)) rfl rfl ⟨by simp only [go_sem],by rw [aa];decide⟩ rfl (by unfold aH;simp only [go_sem]) (by unfold aH;simp only [go_sem]) ?_
   rintro _ _ ⟨rfl,rfl⟩
   unfold fL aH
   simp only [go_sem]
   rw [al ⟨by omega,by omega⟩,hQ]
   simp only [go_sem]
   refine ⟨⟨(i+1,acc++[c]),hstp⟩,by show s.length-(i+1)<_;omega,tau [([1],[28,2])],?_⟩
   unfold aH
   simp only [go_sem]
   all_goals ((repeat' apply And.intro)<;>first | rfl | trivial)
  refine aK E' (fun h3=>?_) (fun h3=>?_)<;>simp only [go_sem]
  ·have hq:quC c=[92,c]:=by unfold quC;rw [if_neg (by rw [h2];simp),if_pos (.inl (dV 34 h3))]
   rw [hq,show acc++[92,c]=acc++[92]++[c] by simp] at hstp
   refine ab E' [.bx [0] 0,.d (byD 92)] (aH acc) [0,1] (dh acc 92 (by omega)) rfl rfl ⟨by simp only [go_sem],by rw [aa];decide⟩ rfl (by unfold aH;simp only [go_sem]) (by unfold aH;simp only [go_sem]) ?_
   rintro _ _ ⟨rfl,rfl⟩
   unfold fL aH
   simp only [go_sem]
   refine ah E' (tau [([1],[36,2])]) [.bx [0] 0,.d (byD c)] (aH (acc++[92])) [0,1] (dh (acc++[92]) c (by simp;omega)) rfl rfl ⟨by simp only [go_sem],by rw [aa];decide⟩ rfl (by unfold aH;simp only [go_sem]) (by unfold aH;simp only [go_sem]) ?_
   rintro _ _ ⟨rfl,rfl⟩
   unfold fL aH
   simp only [go_sem]
   rw [al ⟨by omega,by omega⟩,hQ]
   simp only [go_sem]
   refine ⟨⟨(i+1,acc++[92]++[c]),hstp⟩,by show s.length-(i+1)<_;omega,tau [([1],[38,2])],?_⟩
   unfold aH
   simp only [go_sem]
   all_goals ((repeat' apply And.intro)<;>first | rfl | trivial)
  refine ai E' (fun h4=>?_) (fun h4=>?_)<;>simp only [go_sem]
  ·have hq:quC c=[92,c]:=by unfold quC;rw [if_neg (by rw [h2];simp),if_pos (.inr (dV 92 h4))]
   rw [hq,show acc++[92,c]=acc++[92]++[c] by simp] at hstp
   refine ab E' [.bx [0] 0,.d (byD 92)] (aH acc) [0,1] (dh acc 92 (by omega)) rfl rfl ⟨by simp only [go_sem],by rw [aa];decide⟩ rfl (by unfold aH;simp only [go_sem]) (by unfold aH;simp only [go_sem]) ?_
   rintro _ _ ⟨rfl,rfl⟩
   unfold fL aH
   simp only [go_sem]
   refine ah E' (tau [([1],[36,2])]) [.bx [0] 0,.d (byD c)] (aH (acc++[92])) [0,1] (dh (acc++[92]) c (by simp;omega)) rfl rfl ⟨by simp only [go_sem],by rw [aa];decide⟩ rfl (by unfold aH;simp only [go_sem]) (by unfold aH;simp only [go_sem]) ?_
   rintro _ _ ⟨rfl,rfl⟩
   unfold fL aH
   simp only [go_sem]
   rw [al ⟨by omega,by omega⟩,hQ]
   simp only [go_sem]
   refine ⟨⟨(i+1,acc++[92]++[c]),hstp⟩,by show s.length-(i+1)<_;omega,tau [([1],[38,2])],?_⟩
   unfold aH
   simp only [go_sem]
   all_goals ((repeat' apply And.intro)<;>first | rfl | trivial)
  have hno:¬ (c=34∨c=92):=fun h=>h.elim (bz 34 h3) (bz 92 h4)
  refine ai E' (fun h5=>?_) (fun h5=>?_)<;>simp only [go_sem]
  ·have hq:quC c=[92,110]:=by unfold quC;rw [if_neg (by rw [h2];simp),if_neg hno,if_pos (dV 10 h5)]
   rw [hq] at hstp
   refine ab E' [.bx [0] 0,.d (.str [92,110])] (aH acc) [0,1] (nK acc [92,110] (by simp;omega)) rfl rfl ⟨by simp only [go_sem],by rw [aa];decide⟩ rfl (by unfold aH;simp only [go_sem]) (by unfold aH;simp only [go_sem]) ?_
   rintro _ _ ⟨rfl,rfl⟩
   unfold fL aH
   simp only [go_sem]
   rw [al ⟨by omega,by omega⟩,hQ]
   simp only [go_sem]
   refine ⟨⟨(i+1,acc++[92,110]),hstp⟩,by show s.length-(i+1)<_;omega,tau [([1],[42,2])],?_⟩
   unfold aH
   simp only [go_sem]
   all_goals ((repeat' apply And.intro)<;>first | rfl | trivial)
  refine ai E' (fun h6=>?_) (fun h6=>?_)<;>simp only [go_sem]
  ·have hq:quC c=[92,116]:=by unfold quC;rw [if_neg (by rw [h2];simp),if_neg hno,if_neg (bz 10 h5),if_pos (dV 9 h6)]
   rw [hq] at hstp
   refine ab E' [.bx [0] 0,.d (.str [92,116])] (aH acc) [0,1] (nK acc [92,116] (by simp;omega)) rfl rfl ⟨by simp only [go_sem],by rw [aa];decide⟩ rfl (by unfold aH;simp only [go_sem]) (by unfold aH;simp only [go_sem]) ?_
   rintro _ _ ⟨rfl,rfl⟩
   unfold fL aH
   simp only [go_sem]
   rw [al ⟨by omega,by omega⟩,hQ]
   simp only [go_sem]
   refine ⟨⟨(i+1,acc++[92,116]),hstp⟩,by show s.length-(i+1)<_;omega,tau [([1],[46,2])],?_⟩
   unfold aH
   simp only [go_sem]
   all_goals ((repeat' apply And.intro)<;>first | rfl | trivial)
  have hq:quC c=[92,120,fN (c.toNat / 16),fN (c.toNat % 16)]:=by unfold quC;rw [if_neg (by rw [h2];simp),if_neg hno,if_neg (bz 10 h5),if_neg (bz 9 h6)]
  rw [hq] at hstp
  refine ab E' [.bx [0] 0,.d (.str [92,120])] (aH acc) [0,1] (nK acc [92,120] (by simp;omega)) rfl rfl ⟨by simp only [go_sem],by rw [aa];decide⟩ rfl (by unfold aH;simp only [go_sem]) (by unfold aH;simp only [go_sem]) ?_
  rintro _ _ ⟨rfl,rfl⟩
  unfold fL aH
  simp only [go_sem]
  have e1:=BQ c
  have e2:=CW c
  have hc:=c.toNat_lt
  rw [e1]
  refine ⟨by omega,?_⟩
  refine ah E' (tau [([1],[15,2])]) [.bx [0] 0,.d (byD (fN (c.toNat / 16)))] (aH (acc++[92,120])) [0,1] (dh (acc++[92,120]) (fN (c.toNat / 16)) (by simp;omega)) rfl rfl ⟨by simp only [go_sem],by rw [aa];decide⟩ rfl (by unfold aH;simp only [go_sem]) (by unfold aH;simp only [go_sem]) ?_
  rintro _ _ ⟨rfl,rfl⟩
  unfold fL aH
  simp only [go_sem]
  rw [e2]
  refine ⟨by omega,?_⟩
  refine ah E' (tau [([1],[19,2])]) [.bx [0] 0,.d (byD (fN (c.toNat % 16)))] (aH (acc++[92,120]++[fN (c.toNat / 16)])) [0,1] (dh (acc++[92,120]++[fN (c.toNat / 16)]) (fN (c.toNat % 16)) (by simp;omega)) rfl rfl ⟨by simp only [go_sem],by rw [aa];decide⟩ rfl (by unfold aH;simp only [go_sem]) (by unfold aH;simp only [go_sem]) ?_
  rintro _ _ ⟨rfl,rfl⟩
  unfold fL aH
  rw [show acc++[92,120,fN (c.toNat / 16),fN (c.toNat % 16)]=acc++[92,120]++[fN (c.toNat / 16)]++[fN (c.toNat % 16)] by simp] at hstp
  simp only [go_sem]
  rw [al ⟨by omega,by omega⟩,hQ]
  simp only [go_sem]
  refine ⟨⟨(i+1,acc++[92,120]++[fN (c.toNat / 16)]++[fN (c.toNat % 16)]),hstp⟩,by show s.length-(i+1)<_;omega,tau [([1],[23,2])],?_⟩
  unfold aH
  simp only [go_sem]
  all_goals ((repeat' apply And.intro)<;>first | rfl | trivial)
 ·have he:i=s.length:=by omega
  subst he
  have hne:=hI.ne
  have hfin:=hI.fin
  rw [hQ]
  simp only [go_sem]
  refine ab E [.bx [0] 0,.d (byD 34)] (aH acc) [0,1] (dh acc 34 (by omega)) rfl rfl ⟨by simp only [go_sem],by rw [aa];decide⟩ rfl (by unfold aH;simp only [go_sem]) (by unfold aH;simp only [go_sem]) ?_
  rintro _ _ ⟨rfl,rfl⟩
  unfold fL aH
  simp only [go_sem]
  rw [hfin]
  refine ah E (tau [([1],[48,2])]) [.bx [0] 0] (aH (quS s)) [0,1] (yM (quS s) (by rw [← hfin];simp) (by rw [← hfin,List.length_append];simp;omega)) rfl rfl ⟨by simp only [go_sem],by rw [aa];decide⟩ rfl (by unfold aH;simp only [go_sem]) (by unfold aH;simp only [go_sem]) ?_
  rintro _ _ ⟨rfl,rfl⟩
  simp only [go_sem]
end Go.Proofs.YtejpnabbmgpmaaaGreatDoor

namespace Go.Ab
section
variable {P:Program} {cf:Cf} {ops:Array Oper} {K:St→Ns→Prop} {r:List Oper} {s:St} {ns:Ns}
end
section
variable {P:Program} {cf:Cf} {Q:Exit→St→Prop} {s:St} {k:List It}
end
end Go.Ab

namespace Go.Proofs.YtejpnabbmgpmaaaGreatDoor
open Go.Ab
inductive VT where
 | mk (k n:Int) (s:List UInt8) (nms:List (List UInt8)) (vs:List VT)
def VT.k:VT→Int
 | .mk k _ _ _ _=>k
def VT.n:VT→Int
 | .mk _ n _ _ _=>n
def VT.s:VT→List UInt8
 | .mk _ _ s _ _=>s
def VT.nms:VT→List (List UInt8)
 | .mk _ _ _ nms _=>nms
def VT.vs:VT→List VT
 | .mk _ _ _ _ vs=>vs
def noV:VT:=.mk 0 0 [] [] []
def VT.kid (v:VT) (i:Nat):VT:=v.vs.getD i noV
def VT.nm (v:VT) (i:Nat):List UInt8:=v.nms.getD i []
def vfD (nm:List UInt8) (d:D):D:=.agg (.str nm::d.cells)
mutual
def VT.dat:VT→D
 | .mk k n s nms vs=>.agg [i64 k,i64 n,.str s,.sl (some 5) (List.zipWith vfD nms (VT.dats vs))]
def VT.dats:List VT→List D
 | []=>[]
 | v::r=>v.dat::VT.dats r
end
mutual
def VT.wf:VT→Prop
 | .mk _ _ s nms vs=>(nms.length=vs.length∧vs.length≤1000∧s.length≤9223372036854775807∧∀ x∈nms,x.length≤9223372036854775807)∧VT.wfs vs
def VT.wfs:List VT→Prop
 | []=>True
 | v::r=>v.wf∧VT.wfs r
end
theorem xE:∀ l:List VT,VT.wfs l↔∀ v∈l,v.wf
 | []=>by simp [VT.wfs]
 | v::r=>by rw [VT.wfs,xE r];simp
structure VT.Ok (v:VT):Prop where
 len:v.nms.length=v.vs.length
 few:v.vs.length≤1000
 sl:v.s.length≤9223372036854775807
 nl:∀ x∈v.nms,x.length≤9223372036854775807
 kids:∀ u∈v.vs,u.wf
theorem VT.wf.ok {v:VT} (h:v.wf):v.Ok:=by
 cases v with
 | mk k n s nms vs =>
   rw [VT.wf,xE] at h
   exact ⟨h.1.1,h.1.2.1,h.1.2.2.1,h.1.2.2.2,h.2⟩
def VT.ps (v:VT):List D:=List.zipWith vfD v.nms (VT.dats v.vs)
theorem Ke (v:VT):v.dat=.agg [i64 v.k,i64 v.n,.str v.s,.sl (some 5) v.ps]:=by
 cases v;rfl
mutual
def VT.hg:VT→Nat
 | .mk _ _ _ _ vs=>VT.hgs vs+1
def VT.hgs:List VT→Nat
 | []=>0
 | v::r=>max v.hg (VT.hgs r)
end
mutual
def VT.sz:VT→Nat
 | .mk _ _ _ _ vs=>VT.szs vs+1
def VT.szs:List VT→Nat
 | []=>0
 | v::r=>v.sz+VT.szs r
end
def Kj (k n:Int) (s:List UInt8) (nms:List (List UInt8)):Bool :=
 if k=1 then (s == []) && decide (nms.length=0)
 else if k=2 then (decide (n=0) || decide (n=1)) && (s == []) && decide (nms.length=0)
 else if k=3 then decide (n=0) && decide (nms.length=0)
 else if k=4 then decide (n=0) && (s == []) && decide (nms.length=0)
 else if k=5 then decide (n=0) && (s == [])
 else if k=6 then decide (n=0) && dQ s && decide (nms.length=1) && (nms.getD 0 [] == [])
 else false
mutual
def VT.may:VT→Bool
 | .mk k n s nms vs=>Kj k n s nms && (VT.mays vs && (decide (k≠5) || nms.all bD) && decide nms.Nodup)
def VT.mays:List VT→Bool
 | []=>true
 | v::r=>v.may && VT.mays r
end
def Mm:List UInt8:=[44,32]
def eqB:List UInt8:=[32,61,32]
def bW (sep:List UInt8):List (List UInt8)→List UInt8
 | []=>[]
 | a::r=>a++r.flatMap (sep++·)
def Mj:List UInt8:=[60,102,117,110,62]
def Mo (k n:Int) (s:List UInt8) (nms:List (List UInt8)) (ks:List Int) (ts:List (List UInt8)):List UInt8 :=
 if k=1 then bB n
 else if k=2 then (if n=1 then cC else bF)
 else if k=3 then quS s
 else if k=4 then Mj
 else if k=6 then s++32::(if ks.getD 0 0=6 then 40::(ts.getD 0 []++[41]) else ts.getD 0 [])
 else 123::(bW Mm (List.zipWith (fun nm t=>nm++eqB++t) nms ts)++[125])
mutual
def VT.txt:VT→List UInt8
 | .mk k n s nms vs=>Mo k n s nms (vs.map VT.k) (VT.txts vs)
def VT.txts:List VT→List (List UInt8)
 | []=>[]
 | v::r=>v.txt::VT.txts r
end
mutual
def VT.eq:VT→VT→Bool
 | .mk k n s nms vs,.mk k' n' s' nms' vs'=>decide (k=k') && decide (n=n') && decide (s=s') && (decide (nms=nms') && VT.eqs vs vs')
def VT.eqs:List VT→List VT→Bool
 | [],[]=>true
 | v::r,w::q=>v.eq w && VT.eqs r q
 | _,_=>false
end
end Go.Proofs.YtejpnabbmgpmaaaGreatDoor

namespace Go.Proofs.YtejpnabbmgpmaaaGreatDoor
open Go.Ab
end Go.Proofs.YtejpnabbmgpmaaaGreatDoor

namespace Go.Proofs.YtejpnabbmgpmaaaGreatDoor
open Go.Ab
def om (s:PS) (ns:List EN):List EN × Int × Int :=
 if s.err≠0 then ([],s.pos,s.err) else if ns.any (fun n=>decide (1048576<n.pos)) then ([],0,7) else if dt ns≠0 then ([],0,dt ns) else (ns,0,0)
def iU (l:List Tok) (n:Int):PS:=⟨l,n,0,0,0⟩
def oy (s:PS):PS:=if s.l.isEmpty then s else s.wrong
def eh (s:List UInt8):List EN × Int × Int :=
 if (bS s).2.2≠0 then ([],(bS s).2.1,(bS s).2.2)
 else om (oy (cZ 100 (iU (bS s).1 (bS s).2.1)).2) (cZ 100 (iU (bS s).1 (bS s).2.1)).1
theorem Bb {s:List UInt8} (_h:(bS s).2.2=0):PSo s.length (iU (bS s).1 (bS s).2.1):=by
 obtain ⟨h1,h2,_,h4⟩:=BY s
 exact ⟨h2,⟨by show 0≤((bS s).2.1:Int);omega,by show ((bS s).2.1:Int)≤_;omega⟩,⟨Int.le_refl 0,by show (0:Int)≤s.length;omega⟩⟩
theorem SS.done (s:PS):SS s (oy s):=by
 unfold oy
 split
 ·exact SS.refl s
 ·exact SS.wrong s
end Go.Proofs.YtejpnabbmgpmaaaGreatDoor

namespace Go.Proofs.YtejpnabbmgpmaaaGreatDoor
open Go.Ab
def Pq (N:Int) (n:EN):Prop:=0≤n.pos∧n.pos≤N
def Pl (N:Int) (ns:List EN):Prop:=∀ n∈ns,Pq N n
section
variable {N:Int}
theorem PSo.nn {s:PS} (g:PSo N s):0≤N:=by have:=g.2.1;omega
theorem dP {n:EN} {ls:List (List EN)} (hn:Pq N n) (hl:∀ l∈ls,Pl N l):Pl N (az n ls):=by
 intro m hm
 unfold az at hm
 rcases List.mem_append.1 hm with hm | hm
 ·exact BW (P:=Pq N) (fun _ _ h=>h) ls [] [] hl (fun _ h=>by cases h) m hm
 ·rw [List.mem_singleton.1 hm];exact hn
theorem gZ {n:EN} (hn:Pq N n):Pl N (cA n):=dP hn fun _ h=>by cases h
theorem y5 (h0:0≤N):Pl N noE:=gZ ⟨Int.le_refl 0,h0⟩
theorem G7 {a:List EN} (h:Pl N a) (h0:0≤N):Pq N (dU a):=by
 unfold dU ndE
 rw [List.getD_eq_getElem?_getD]
 cases e:a[a.length-1]? with
 | none=>exact ⟨Int.le_refl 0,h0⟩
 | some x=>exact h x (List.mem_of_getElem? e)
variable {ex:PS→PR} (hex:∀ s,GP 1 s (ex s)) (hx:∀ s,PSo N s→Pl N (ex s).1)
include hex hx
theorem oB (between:List UInt8) (part:PS→List EF→EF × PS) (hp:∀ s l,SS s (part s l).2):∀ (m:Nat) (s:PS) (l:List EF) (ks:List (List EN)),PSo N s→(∀ k∈ks,Pl N k) →
  (∀ k∈(bu ex between part m s l ks).2.1,Pl N k)
 | 0,s,l,ks,_,h2=>h2
 | m+1,s,l,ks,g,h2=>by
   have g1:=(hp s l).po g
   have g2:=(hex (part s l).2).ss.po g1
   have a2:∀ k∈ks++[(ex (part s l).2).1],Pl N k:=fun k h=>by
    rcases List.mem_append.1 h with h | h
    ·exact h2 k h
    ·rw [List.mem_singleton.1 h];exact hx _ g1
   unfold bu
   simp only
   split
   ·exact oB between part hp m _ _ _ ((SS.next _).po g2) a2
   ·exact a2
theorem AM (s:PS) (g:PSo N s) (pos:Int) (hp:0≤pos∧pos≤N):Pl N (cK ex s pos).1:=by
 unfold cK
 split
 ·exact gZ hp
 ·exact dP hp (oB hex hx [44] dM SS.field s.l.length.succ s [] [] g (fun _ h=>by cases h))
theorem CQ (s:PS) (g:PSo N s) (pos:Int) (hp:0≤pos∧pos≤N):Pl N (dY ex s pos).1:=by
 unfold dY
 have g1:=(SS.must (ex s).2 1 bOf).po ((hex s).ss.po g)
 simp only
 have h:=oB hex hx [124] cH SS.branch ((ex s).2.must 1 bOf).l.length.succ _ [] [] g1 (fun _ h=>by cases h)
 refine dP hp fun l hl=>?_
 rcases List.mem_cons.1 hl with rfl | hl
 ·exact hx s g
 ·exact h l hl
theorem Hv (s:PS) (g:PSo N s):Pl N (bG ex s).1:=by
 have gn:=(SS.next s).po g
 have gp:=dq g
 have h0:=g.nn
 unfold bG
 simp only
 repeat' split
 ·exact y5 h0
 ·exact gZ gp
 ·exact gZ gp
 ·exact gZ gp
 ·exact gZ gp
 ·exact gZ gp
 ·exact hx _ gn
 ·exact AM hex hx _ gn _ gp
 ·exact CQ hex hx _ gn _ gp
 ·exact y5 h0
omit hex hx in
theorem yU:∀ (m:Nat) (a:List EN) (s:PS),Pl N a→PSo N s→Pl N (dA m a s).1
 | 0,_,_,h,_=>h
 | m+1,a,s,h,g=>by
   unfold dA
   split
   ·exact yU m _ _ (dP (dq g) fun l hl=>by rw [List.mem_singleton.1 hl];exact h) ((SS.of _ 2).po ((SS.next s).po g))
   ·exact h
theorem rn (s:PS) (g:PSo N s):Pl N (cB ex s).1:=yU _ _ _ (Hv hex hx s g) ((jI hex s).1.ss.po g)
theorem yp:∀ (m:Nat) (a:List EN) (s:PS),Pl N a→PSo N s→Pl N (dO ex m a s).1
 | 0,_,_,h,_=>h
 | m+1,a,s,h,g=>by
   unfold dO
   split
   ·refine yp m _ _ (dP (G7 h g.nn) fun l hl=>?_) ((dH hex s).1.ss.po g)
    rcases List.mem_cons.1 hl with rfl | hl
    ·exact h
    ·rw [List.mem_singleton.1 hl];exact rn hex hx s g
   ·exact h
theorem DX (s:PS) (g:PSo N s):Pl N (fM ex s).1:=by
 unfold fM
 simp only
 split
 ·exact dP (dq g) fun l hl=>by rw [List.mem_singleton.1 hl];exact rn hex hx _ ((SS.next s).po g)
 ·exact yp hex hx _ _ _ (rn hex hx s g) ((dH hex s).1.ss.po g)
omit hex hx in
theorem vH (ops:List (List UInt8 × Int)) (sub:PS→PR) (h1:∀ s,SS s (sub s).2) (h2:∀ s,PSo N s→Pl N (sub s).1):∀ (m:Nat) (a:List EN) (s:PS),Pl N a→PSo N s→Pl N (eV ops sub m a s).1
 | 0,_,_,h,_=>h
 | m+1,a,s,h,g=>by
   unfold eV
   split
   ·have gn:=(SS.next s).po g
    refine vH ops sub h1 h2 m _ _ (dP (dq g) fun l hl=>?_) ((h1 _).po gn)
    rcases List.mem_cons.1 hl with rfl | hl
    ·exact h
    ·rw [List.mem_singleton.1 hl];exact h2 _ gn
   ·exact h
theorem y0 (s:PS) (g:PSo N s):Pl N (eM ex s).1:=vH _ _ (fun s=>(fu hex s).ss) (DX hex hx) _ _ _ (DX hex hx s g) ((fu hex s).ss.po g)
theorem vN (s:PS) (g:PSo N s):Pl N (j2 ex s).1:=vH _ _ (fun s=>(eg hex s).ss) (y0 hex hx) _ _ _ (y0 hex hx s g) ((eg hex s).ss.po g)
theorem Jw (s:PS) (g:PSo N s):Pl N (lP ex s).1:=by
 unfold lP
 simp only
 split
 ·have g1:=(gj hex s).ss.po g
  refine dP (dq g1) fun l hl=>?_
  rcases List.mem_cons.1 hl with rfl | hl
  ·exact vN hex hx s g
  ·rw [List.mem_singleton.1 hl];exact vN hex hx _ ((SS.next _).po g1)
 ·exact vN hex hx s g
theorem Jt (s:PS) (g:PSo N s) (pos:Int) (hp:0≤pos∧pos≤N):Pl N (jY ex s pos).1:=by
 unfold jY
 simp only
 obtain ⟨k,hk⟩:∃ k:Int,k=if s.sees 1 gh=true then 8 else 7:=⟨_,rfl⟩
 rw [← hk]
 have g1:=(SS.may s 1 gh).po g
 have g2:=(SS.of _ 2).po g1
 have g3:=(SS.must _ 7 [61]).po g2
 have g4:=(hex _).ss.po g3
 refine dP hp fun l hl=>?_
 rcases List.mem_cons.1 hl with rfl | hl
 ·exact hx _ g3
 ·rw [List.mem_singleton.1 hl]
  refine hx _ ((SS.must _ 1 bIn).po ?_)
  split
  ·exact (SS.withp (hex _).ss _ _ fun _ h=>dq h).po g3
  ·exact g4
theorem KA (s:PS) (g:PSo N s) (pos:Int) (hp:0≤pos∧pos≤N):Pl N (ifS ex s pos).1:=by
 unfold ifS
 simp only
 have g1:=(SS.must _ 1 jQ).po ((hex _).ss.po g)
 have g2:=(SS.must _ 1 jU).po ((hex _).ss.po g1)
 refine dP hp fun l hl=>?_
 simp only [List.mem_cons,List.not_mem_nil,or_false] at hl
 rcases hl with rfl | rfl | rfl
 ·exact hx _ g
 ·exact hx _ g1
 ·exact hx _ g2
theorem Gt (s:PS) (g:PSo N s):Pl N (dS ex s).1:=by
 have gn:=(SS.next s).po g
 have gp:=dq g
 unfold dS
 simp only
 repeat' split
 ·exact dP gp fun l hl=>by rw [List.mem_singleton.1 hl];exact hx _ ((SS.must _ 7 bTo).po ((SS.of _ 2).po gn))
 ·exact Jt hex hx _ gn _ gp
 ·exact KA hex hx _ gn _ gp
 ·exact Jw hex hx s g
end
theorem yV {N:Int}:∀ (m:Nat) (s:PS),PSo N s→Pl N (cZ m s).1
 | 0,s,g=>y5 g.nn
 | m+1,s,g=>by
   unfold cZ
   split
   ·exact y5 g.nn
   ·exact Gt (gA m) (yV m) _ g
end Go.Proofs.YtejpnabbmgpmaaaGreatDoor

namespace Go.Proofs.YtejpnabbmgpmaaaGreatDoor
open Go.Ab
def mj (P:List Pc):Prop:=∀ r,iw r→nxP r→iw (P++r)
def OkL (P:List Pc):Prop:=∀ t∈tkP P,OkT t
theorem dW {w:List UInt8} {r:List Pc} (h1:w=[45]∨w=[61]→∃ y,r=.sp::y) (h:iw r):iw (sgP w::r) :=
 ⟨⟨fun _=>h1,fun g=>by
   have e:(⟨7,w,0⟩:Tk).k=7:=rfl
   rw [e] at g
   omega⟩,h⟩
theorem bM {k n:Int} {s:List UInt8} {r:List Pc} (hk:k=1∨k=2∨k=3∨k=4) (hn:nxP r) (h:iw r):iw (.tok ⟨k,s,n⟩::r) :=
 ⟨⟨fun g=>by
   have g:k=7:=g
   omega,fun _=>hn⟩,h⟩
theorem I4 {n:Int} {s:List UInt8} {r:List Pc} (h:iw r):iw (.tok ⟨5,s,n⟩::r) :=
 ⟨⟨fun g=>by
   have g:(5:Int)=7:=g
   omega,fun g=>by
   have e:(⟨5,s,n⟩:Tk).k=5:=rfl
   rw [e] at g
   omega⟩,h⟩
theorem ED:mj []:=fun _ h _=>h
theorem Ji {least:Nat} {q:Nat × List Pc} (h:mj q.2):mj (atP least q):=fun r hr hn=>by
 unfold atP
 split
 ·exact h r hr hn
 ·simp only [List.cons_append,List.append_assoc,List.nil_append]
  refine dW (fun g=>absurd g (by decide)) (h _ (dW (fun g=>absurd g (by decide)) hr) rfl)
theorem GZ {ks:List (Nat × List Pc)} (h:∀ q∈ks,mj q.2) (j least:Nat):mj (cP ks j least):=by
 unfold cP
 refine Ji ?_
 rw [List.getD_eq_getElem?_getD]
 cases e:ks[j]? with
 | none=>exact ED
 | some q=>exact h q (List.mem_of_getElem? e)
theorem tn {sep:List Pc} (hs:∀ r,iw r→iw (sep++r)) (hn:∀ r,nxP (sep++r)):∀ L:List (List Pc),(∀ x∈L,mj x)→∀ r,iw r→nxP r→iw (L.flatMap (sep++·)++r)∧nxP (L.flatMap (sep++·)++r)
 | [],_,r,hr,hx=>⟨hr,hx⟩
 | a::L,h,r,hr,hx=>by
   obtain ⟨h1,h2⟩:=tn hs hn L (fun x hx=>h x (List.mem_cons_of_mem _ hx)) r hr hx
   rw [List.flatMap_cons,List.append_assoc,List.append_assoc]
   exact ⟨hs _ (h a List.mem_cons_self _ h1 h2),hn _⟩
theorem um {sep:List Pc} (hs:∀ r,iw r→iw (sep++r)) (hn:∀ r,nxP (sep++r)):∀ L:List (List Pc),(∀ x∈L,mj x)→mj (fU sep L)
 | [],_=>ED
 | a::L,h=>fun r hr hx=>by
   obtain ⟨h1,h2⟩:=tn hs hn L (fun x hx=>h x (List.mem_cons_of_mem _ hx)) r hr hx
   rw [fU,List.append_assoc]
   exact h a List.mem_cons_self _ h1 h2
theorem kC {α β γ:Type} {g:α→β→γ} {P:γ→Prop}:∀ (l:List α) (ks:List β),(∀ f∈l,∀ q∈ks,P (g f q))→∀ x∈List.zipWith g l ks,P x
 | [],_,_,x,hx=>by rw [List.zipWith_nil_left] at hx;cases hx
 | _::_,[],_,x,hx=>by rw [List.zipWith_nil_right] at hx;cases hx
 | f::l,q::ks,h,x,hx=>by
   rw [List.zipWith_cons_cons] at hx
   rcases List.mem_cons.1 hx with rfl | hx
   ·exact h f List.mem_cons_self q List.mem_cons_self
   ·exact kC l ks (fun f hf q hq=>h f (List.mem_cons_of_mem _ hf) q (List.mem_cons_of_mem _ hq)) x hx
theorem Jc (n:EN) (ks:List (Nat × List Pc)) (h:∀ q∈ks,mj q.2):mj (pcN n ks):=by
 have hk:=GZ h
 intro r hr hn
 unfold pcN
 by_cases q1:n.k=1
 ·rw [if_pos q1]
  exact bM (.inr (.inr (.inr rfl))) hn hr
 rw [if_neg q1]
 by_cases q2:n.k=2
 ·rw [if_pos q2]
  exact bM (.inl rfl) hn hr
 rw [if_neg q2]
 by_cases q3:n.k=3
 ·rw [if_pos q3]
  exact I4 hr
 rw [if_neg q3]
 by_cases q4:n.k=4
 ·rw [if_pos q4]
  exact bM (.inr (.inl rfl)) hn hr
 rw [if_neg q4]
 by_cases q5:n.k=5
 ·rw [if_pos q5]
  rw [List.append_assoc]
  exact bM (.inl rfl) trivial (bM (.inr (.inl rfl)) trivial (dW (fun g=>absurd g (by decide)) (hk 0 0 r hr hn)))
 rw [if_neg q5]
 by_cases q6:n.k=6
 ·rw [if_pos q6]
  rw [List.append_assoc]
  exact hk 0 5 _ (hk 1 6 r hr hn) trivial
 rw [if_neg q6]
 by_cases q7:n.k=7
 ·rw [if_pos q7]
  simp only [List.append_assoc]
  exact bM (.inl rfl) trivial (bM (.inr (.inl rfl)) trivial (dW (fun _=>⟨_,rfl⟩) (hk 0 0 _ (bM (.inl rfl) trivial (hk 1 0 r hr hn)) trivial)))
 rw [if_neg q7]
 by_cases q8:n.k=8
 ·rw [if_pos q8]
  simp only [List.append_assoc]
  exact bM (.inl rfl) trivial (bM (.inl rfl) trivial (bM (.inr (.inl rfl)) trivial (dW (fun _=>⟨_,rfl⟩) (hk 0 0 _ (bM (.inl rfl) trivial (hk 1 0 r hr hn)) trivial))))
 rw [if_neg q8]
 by_cases q9:n.k=9
 ·rw [if_pos q9]
  simp only [List.append_assoc]
  exact bM (.inl rfl) trivial (hk 0 0 _ (bM (.inl rfl) trivial (hk 1 0 _ (bM (.inl rfl) trivial (hk 2 0 r hr hn)) trivial)) trivial)
 rw [if_neg q9]
 by_cases q10:n.k=10
 ·rw [if_pos q10]
  simp only [List.append_assoc]
  exact hk 0 _ _ (dW (fun _=>⟨_,rfl⟩) (hk 1 _ r hr hn)) trivial
 rw [if_neg q10]
 by_cases q11:n.k=11
 ·rw [if_pos q11]
  simp only [List.append_assoc]
  refine dW (w:=[123]) (fun g=>absurd g (by decide)) (um (sep:=[sgP [44],.sp]) (fun r h=>dW (w:=[44]) (r:=.sp::r) (fun g=>absurd g (by decide)) h) (fun r=>rfl) _ (kC _ _ fun f _ q hq=>?_) _ (dW (fun g=>absurd g (by decide)) hr) rfl)
  intro r hr hn
  exact bM (.inr (.inl rfl)) trivial (dW (fun _=>⟨_,rfl⟩) (h q hq r hr hn))
 rw [if_neg q11]
 by_cases q12:n.k=12
 ·rw [if_pos q12]
  simp only [List.append_assoc]
  exact hk 0 6 _ (dW (fun g=>absurd g (by decide)) (bM (.inr (.inl rfl)) hn hr)) rfl
 rw [if_neg q12]
 by_cases q13:n.k=13
 ·rw [if_pos q13]
  simp only [List.append_assoc]
  exact bM (.inr (.inr (.inl rfl))) trivial (hk 0 6 r hr hn)
 ·rw [if_neg q13]
  simp only [List.append_assoc]
  refine bM (.inl rfl) trivial (hk 0 0 _ (bM (.inl rfl) trivial (um (sep:=[.sp,sgP [124],.sp]) (fun r h=>dW (w:=[124]) (r:=.sp::r) (fun g=>absurd g (by decide)) h) (fun r=>trivial) _ (kC _ _ fun f _ q hq=>?_) _ (bM (.inl rfl) hn hr) trivial)) trivial)
  intro r hr hn
  exact bM (.inr (.inr (.inl rfl))) trivial (bM (.inr (.inl rfl)) trivial (dW (fun g=>absurd g (by decide)) (h q (List.mem_of_mem_drop hq) r hr hn)))
mutual
theorem vp:∀ t:RT,mj t.pcs
 | .mk n ts=>by
   rw [RT.pcs]
   exact Jc n _ (qq ts)
theorem qq:∀ ts:List RT,∀ q∈RT.pcss ts,mj q.2
 | [],q,h=>by rw [RT.pcss] at h;cases h
 | t::r,q,h=>by
   rw [RT.pcss] at h
   rcases List.mem_cons.1 h with rfl | h
   ·exact vp t
   ·exact qq r q h
end
theorem bU:OkL []:=fun _ h=>by cases h
theorem bg {a b:List Pc} (h1:OkL a) (h2:OkL b):OkL (a++b):=fun t ht=>by
 rw [bZ] at ht
 rcases List.mem_append.1 ht with h | h
 ·exact h1 t h
 ·exact h2 t h
theorem lA {t:Tk} {r:List Pc} (ht:OkT t) (h:OkL r):OkL (.tok t::r):=fun u hu=>by
 rw [cn] at hu
 rcases List.mem_cons.1 hu with rfl | hu
 ·exact ht
 ·exact h u hu
def Lp:List (List UInt8):=[[40],[41],[44],[46],[61],[123],[125],[124],[45,62],[43],[45],[42],[47],[60],[61,61],[94]]
theorem gk {w:List UInt8} {r:List Pc} (hw:w∈Lp) (h:OkL r):OkL (sgP w::r):=lA (.inr (.inr (.inr (.inr (.inr ⟨rfl,hw,rfl⟩))))) h
theorem fR {w:List UInt8} {r:List Pc} (hw:(ba w && ph w)=true) (h:OkL r):OkL (kwP w::r):=by
 rw [Bool.and_eq_true] at hw
 exact lA (.inl ⟨rfl,hw.1,hw.2,rfl⟩) h
theorem nP {w:List UInt8} {r:List Pc} (hw:bD w=true) (h:OkL r):OkL (nmP w::r):=lA (.inr (.inl ⟨rfl,hw,rfl⟩)) h
theorem Io {s:List UInt8} (h:dQ s=true):ph s=false:=by
 unfold ph
 rw [decide_eq_false_iff_not]
 intro hs
 have:kwB.all (fun s=>!dQ s)=true:=by decide +kernel
 have:=List.all_eq_true.1 this s hs
 rw [h] at this
 cases this
theorem HN {w:List UInt8} {r:List Pc} (hw:dQ w=true) (h:OkL r):OkL (tgP w::r):=lA (.inr (.inr (.inl ⟨rfl,hw,Io hw,rfl⟩))) h
theorem LA {least:Nat} {q:Nat × List Pc} (h:OkL q.2):OkL (atP least q):=by
 unfold atP
 split
 ·exact h
 ·exact gk (by decide) (bg h (gk (by decide) bU))
theorem Jk {ks:List (Nat × List Pc)} (h:∀ q∈ks,OkL q.2) (j least:Nat):OkL (cP ks j least):=by
 unfold cP
 refine LA ?_
 rw [List.getD_eq_getElem?_getD]
 cases e:ks[j]? with
 | none=>exact bU
 | some q=>exact h q (List.mem_of_getElem? e)
theorem w7 {sep:List Pc} (hs:OkL sep):∀ L:List (List Pc),(∀ x∈L,OkL x)→OkL (fU sep L)
 | [],_=>bU
 | a::L,h=>by
   have flat:∀ L:List (List Pc),(∀ x∈L,OkL x)→OkL (L.flatMap (sep++·)):=fun L=>by
    induction L with
    | nil=>exact fun _=>bU
    | cons b L ih =>
      intro h
      rw [List.flatMap_cons]
      exact bg (bg hs (h b List.mem_cons_self)) (ih fun x hx=>h x (List.mem_cons_of_mem _ hx))
   rw [fU]
   exact bg (h a List.mem_cons_self) (flat L fun x hx=>h x (List.mem_cons_of_mem _ hx))
theorem l0 {n:EN} (h:ar n=true) (hp:aw n.k=true):∀ f∈n.l,dG n.k f=true:=by
 unfold ar bm at h
 simp only [Bool.and_eq_true] at h
 have h1:=h.2.1.2
 rw [if_pos hp] at h1
 simp only [Bool.and_eq_true] at h1
 exact List.all_eq_true.1 h1.1
theorem Aw {n:EN} (h:ar n=true) (hk:n.k=13):dQ n.name=true:=by
 unfold ar da at h
 simp only [Bool.and_eq_true] at h
 have h1:=h.2.1.1.1
 rw [if_neg (by omega),if_pos hk] at h1
 exact h1
theorem CX {n:EN} (h:ar n=true) (hk:n.k=10):eZ n.n∈Lp:=by
 unfold ar bH at h
 simp only [Bool.and_eq_true] at h
 have h1:=h.2.1.1.2
 rw [if_neg (by omega),if_neg (by omega),if_pos hk] at h1
 simp only [Bool.and_eq_true,decide_eq_true_eq] at h1
 rcases (by omega:n.n=1∨n.n=2∨n.n=3∨n.n=4∨n.n=5∨n.n=6∨n.n=7) with e | e | e | e | e | e | e<;>rw [e]<;>decide
theorem fW {n:EN} (h:ar n=true):1≤n.k∧n.k≤14:=by
 unfold ar at h
 simp only [Bool.and_eq_true,decide_eq_true_eq] at h
 exact ⟨h.1.1.1.1,h.1.1.1.2⟩
theorem KW (n:EN) (ks:List (Nat × List Pc)) (hg:GL n) (h:∀ q∈ks,OkL q.2):OkL (pcN n ks):=by
 have hk:=Jk h
 obtain ⟨hr,hn⟩:=hg
 obtain ⟨k1,k2⟩:=fW hr
 have nm:=fun h=>wj hr h
 unfold pcN
 by_cases q1:n.k=1
 ·rw [if_pos q1]
  exact lA (.inr (.inr (.inr (.inl ⟨rfl,rfl,hn⟩)))) bU
 rw [if_neg q1]
 by_cases q2:n.k=2
 ·rw [if_pos q2]
  split
  ·exact fR (by decide) bU
  ·exact fR (by decide) bU
 rw [if_neg q2]
 by_cases q3:n.k=3
 ·rw [if_pos q3]
  exact lA (.inr (.inr (.inr (.inr (.inl ⟨rfl,mS hr,rfl⟩))))) bU
 rw [if_neg q3]
 by_cases q4:n.k=4
 ·rw [if_pos q4]
  exact nP (nm (by omega)) bU
 rw [if_neg q4]
 by_cases q5:n.k=5
 ·rw [if_pos q5]
  exact bg (fR (by decide) (nP (nm (by omega)) (gk (by decide) bU))) (hk 0 0)
 rw [if_neg q5]
 by_cases q6:n.k=6
 ·rw [if_pos q6]
  exact bg (hk 0 5) (bg bU (hk 1 6))
 rw [if_neg q6]
 by_cases q7:n.k=7
 ·rw [if_pos q7]
  exact bg (fR (by decide) (nP (nm (by omega)) (gk (by decide) bU))) (bg (hk 0 0) (bg (fR (by decide) bU) (hk 1 0)))
 rw [if_neg q7]
 by_cases q8:n.k=8
 ·rw [if_pos q8]
  exact bg (fR (by decide) (fR (by decide) (nP (nm (by omega)) (gk (by decide) bU)))) (bg (hk 0 0) (bg (fR (by decide) bU) (hk 1 0)))
 rw [if_neg q8]
 by_cases q9:n.k=9
 ·rw [if_pos q9]
  exact bg (fR (by decide) bU) (bg (hk 0 0) (bg (fR (by decide) bU) (bg (hk 1 0) (bg (fR (by decide) bU) (hk 2 0)))))
 rw [if_neg q9]
 by_cases q10:n.k=10
 ·rw [if_pos q10]
  have h10:=q10
  exact bg (hk 0 _) (bg (gk (CX hr h10) bU) (hk 1 _))
 rw [if_neg q10]
 by_cases q11:n.k=11
 ·rw [if_pos q11]
  have h11:=q11
  refine bg (gk (by decide) bU) (bg (w7 (sep:=[sgP [44],.sp]) (gk (w:=[44]) (by decide) bU) _ (kC _ _ fun f hf q hq=>?_)) (gk (by decide) bU))
  have:=l0 hr (by rw [h11];rfl) f hf
  unfold dG at this
  rw [if_pos h11,Bool.and_eq_true] at this
  exact bg (nP this.1 (gk (by decide) bU)) (h q hq)
 rw [if_neg q11]
 by_cases q12:n.k=12
 ·rw [if_pos q12]
  exact bg (hk 0 6) (gk (by decide) (nP (nm (by omega)) bU))
 rw [if_neg q12]
 by_cases q13:n.k=13
 ·rw [if_pos q13]
  have h13:=q13
  exact bg (HN (Aw hr h13) bU) (hk 0 6)
 ·rw [if_neg q13]
  have h14:n.k=14:=by omega
  refine bg (fR (by decide) bU) (bg (hk 0 0) (bg (fR (by decide) bU) (bg (w7 (sep:=[.sp,sgP [124],.sp]) (gk (w:=[124]) (by decide) bU) _ (kC _ _ fun f hf q hq=>?_)) (fR (by decide) bU))))
  have:=l0 hr (by rw [h14];rfl) f hf
  unfold dG at this
  rw [if_neg (by omega),Bool.and_eq_true] at this
  exact bg (HN this.1 (nP this.2 (gk (by decide) bU))) (h q (List.mem_of_mem_drop hq))
mutual
theorem mT:∀ t:RT,t.rt→OkL t.pcs
 | .mk n ts,h=>by
   rw [RT.rt] at h
   rw [RT.pcs]
   exact KW n _ h.1 (uY ts h.2)
theorem uY:∀ ts:List RT,RT.rts ts→∀ q∈RT.pcss ts,OkL q.2
 | [],_,q,h=>by rw [RT.pcss] at h;cases h
 | t::r,g,q,h=>by
   rw [RT.rts] at g
   rw [RT.pcss] at h
   rcases List.mem_cons.1 h with rfl | h
   ·exact mT t g.1
   ·exact uY r g.2 q h
end
theorem nN (t:RT):iw t.pcs:=by
 have:=vp t [] trivial trivial
 rwa [List.append_nil] at this
end Go.Proofs.YtejpnabbmgpmaaaGreatDoor

namespace Go.Proofs.YtejpnabbmgpmaaaGreatDoor
open Go.Ab
def Tok.tk (t:Tok):Tk:=⟨t.k,t.s,t.n⟩
def TkS (s:PS) (ts:List Tk):Prop:=s.err=0∧s.l.map Tok.tk=ts
theorem TkS.peek {s:PS} {t:Tk} {r:List Tk} (h:TkS s (t::r)):s.peek.k=t.k∧s.peek.s=t.s∧s.peek.n=t.n:=by
 obtain ⟨_,h⟩:=h
 unfold PS.peek
 cases hl:s.l with
 | nil=>rw [hl] at h;cases h
 | cons x y =>
   rw [hl,List.map_cons] at h
   obtain ⟨h1,_⟩:=List.cons.inj h
   subst h1
   exact ⟨rfl,rfl,rfl⟩
theorem TkS.next {s:PS} {t:Tk} {r:List Tk} (h:TkS s (t::r)):TkS s.next r:=by
 obtain ⟨he,h⟩:=h
 refine ⟨he,?_⟩
 show s.l.tail.map Tok.tk=r
 rw [List.map_tail,h];rfl
theorem TkS.len {s:PS} {r:List Tk} (h:TkS s r):s.l.length=r.length:=by rw [← h.2,List.length_map]
theorem TkS.sees {s:PS} {t:Tk} {r:List Tk} (h:TkS s (t::r)) (k:Int) (w:List UInt8):s.sees k w=(decide (t.k=k) && decide (t.s=w)):=by
 obtain ⟨h1,h2,_⟩:=h.peek
 have hne:s.l.isEmpty=false:=by
  cases hl:s.l with
  | nil=>have:=h.2;rw [hl] at this;cases this
  | cons x y=>rfl
 unfold PS.sees PS.is
 rw [decide_eq_true h.1,hne,h1,h2]
 simp
theorem TkS.Kf {s:PS} (h:TkS s []) (k:Int) (w:List UInt8):s.sees k w=false:=by
 have hl:s.l=[]:=List.map_eq_nil_iff.1 h.2
 unfold PS.sees PS.is
 rw [hl];simp
theorem TkS.yes {s:PS} {k n:Int} {w:List UInt8} {r:List Tk} (h:TkS s (⟨k,w,n⟩::r)):s.sees k w=true:=by
 rw [h.sees];simp
theorem TkS.must {s:PS} {k n:Int} {w:List UInt8} {r:List Tk} (h:TkS s (⟨k,w,n⟩::r)):s.must k w=s.next:=by
 unfold PS.must
 rw [h.yes,if_pos rfl]
theorem TkS.may {s:PS} {k n:Int} {w:List UInt8} {r:List Tk} (h:TkS s (⟨k,w,n⟩::r)):s.may k w=s.next:=by
 unfold PS.may
 rw [h.yes,if_pos rfl]
theorem TkS.has {s:PS} {t:Tk} {r:List Tk} (h:TkS s (t::r)) (k:Int):s.has k=decide (t.k=k):=by
 unfold PS.has
 rw [decide_eq_true h.1,h.peek.1,Bool.true_and]
theorem TkS.of {s:PS} {k n:Int} {w:List UInt8} {r:List Tk} (h:TkS s (⟨k,w,n⟩::r)):s.of k=(w,s.next):=by
 unfold PS.of
 rw [h.has,if_pos (by simp),h.peek.2.1]
def r9 (ops:List (List UInt8)):List Tk→Bool
 | []=>false
 | t::_=>decide (t.k=7) && decide (t.s∈ops)
theorem lH (ops:List (List UInt8)) (t:Tk) (r:List Tk):r9 ops (t::r)=(decide (t.k=7) && decide (t.s∈ops)):=rfl
def mm (t:Tk):Bool:=decide (t.k=4) || decide (t.k=5) || decide (t.k=2) || (decide (t.k=1) && (decide (t.s=cC) || decide (t.s=bF) || decide (t.s=fV))) || (decide (t.k=7) && (decide (t.s=[40]) || decide (t.s=[123])))
def IQ:List Tk→Bool
 | []=>false
 | t::_=>mm t
theorem TkS.begins {s:PS} {r:List Tk} (h:TkS s r):s.begins=IQ r:=by
 cases r with
 | nil =>
   have hl:s.l=[]:=List.map_eq_nil_iff.1 h.2
   unfold PS.begins PS.peek
   rw [hl];rfl
 | cons t r =>
   obtain ⟨h1,h2,_⟩:=h.peek
   unfold PS.begins
   simp only
   rw [h1,h2];rfl
theorem TkS.no {s:PS} {r:List Tk} {ops:List (List UInt8)} {w:List UInt8} (h:TkS s r) (hr:r9 ops r=false) (hw:w∈ops):s.sees 7 w=false:=by
 cases r with
 | nil=>exact h.Kf _ _
 | cons t r =>
   rw [h.sees]
   rw [lH] at hr
   by_cases h7:t.k=7
   ·rw [decide_eq_true h7,Bool.true_and] at hr ⊢
    refine decide_eq_false fun e=>?_
    rw [e] at hr
    exact absurd hw (of_decide_eq_false hr)
   ·rw [decide_eq_false h7,Bool.false_and]
theorem TkS.ops {s:PS} {r:List Tk} (h:TkS s r):∀ ops:List (List UInt8 × Int),r9 (ops.map (·.1)) r=false→opS s ops=none
 | [],_=>rfl
 | q::l,hr=>by
   have h1:=h.no hr (w:=q.1) (by simp)
   have h2:r9 (l.map (·.1)) r=false:=by
    cases r with
    | nil=>rfl
    | cons t r =>
      rw [lH] at hr ⊢
      by_cases h7:t.k=7
      ·rw [decide_eq_true h7,Bool.true_and] at hr ⊢
       have:=of_decide_eq_false hr
       refine decide_eq_false fun e=>this ?_
       rw [List.map_cons]
       exact List.mem_cons_of_mem _ e
      ·rw [decide_eq_false h7,Bool.false_and]
   rw [opS,h1,if_neg (by decide),TkS.ops h l h2]
def F6 (r:List Tk):Prop:=r9 [[46]] r=false
def F5 (r:List Tk):Prop:=F6 r∧IQ r=false
def F3 (r:List Tk):Prop:=F5 r∧r9 [[42],[47]] r=false
def F2 (r:List Tk):Prop:=F3 r∧r9 [[43],[45],[94]] r=false
def F1 (r:List Tk):Prop:=F2 r∧r9 [[60],[61,61]] r=false
def RdT (p:PR) (t:RT) (r:List Tk):Prop:=∃ u:RT,p.1=u.enc∧u.np=t.np∧TkS p.2 r
section
variable (ex:PS→PR)
def WT (t:RT):Prop:=∀ s r,TkS s (t.tks++r)→F1 r→RdT (ex s) t r
def A7 (T:List Tk) (t:RT):Prop:=∀ s r,TkS s (T++r)→RdT (bG ex s) t r
def S6 (T:List Tk) (t:RT):Prop:=∀ s r,TkS s (T++r)→∃ (u:RT) (s':PS) (m:Nat),cB ex s=dA m u.enc s'∧r.length<m∧u.np=t.np∧TkS s' r
def P6 (T:List Tk) (t:RT):Prop:=∀ s r,TkS s (T++r)→F6 r→RdT (cB ex s) t r
def S5 (T:List Tk) (t:RT):Prop:=∀ s r,TkS s (T++r)→F6 r→∃ (u:RT) (s':PS) (m:Nat),fM ex s=dO ex m u.enc s'∧r.length<m∧u.np=t.np∧TkS s' r
def P4 (T:List Tk) (t:RT):Prop:=∀ s r,TkS s (T++r)→F5 r→RdT (fM ex s) t r
def S3 (T:List Tk) (t:RT):Prop:=∀ s r,TkS s (T++r)→F5 r→∃ (u:RT) (s':PS) (m:Nat),eM ex s=eV dk (fM ex) m u.enc s'∧r.length<m∧u.np=t.np∧TkS s' r
def P3 (T:List Tk) (t:RT):Prop:=∀ s r,TkS s (T++r)→F3 r→RdT (eM ex s) t r
def S2 (T:List Tk) (t:RT):Prop:=∀ s r,TkS s (T++r)→F3 r→∃ (u:RT) (s':PS) (m:Nat),j2 ex s=eV eS (eM ex) m u.enc s'∧r.length<m∧u.np=t.np∧TkS s' r
def P2 (T:List Tk) (t:RT):Prop:=∀ s r,TkS s (T++r)→F2 r→RdT (j2 ex s) t r
def P1 (T:List Tk) (t:RT):Prop:=∀ s r,TkS s (T++r)→F1 r→RdT (lP ex s) t r
def P0 (T:List Tk) (t:RT):Prop:=∀ s r,TkS s (T++r)→F1 r→RdT (dS ex s) t r
end
section
variable {ex:PS→PR} {T:List Tk} {t:RT}
theorem A7.s6 (h:A7 ex T t):S6 ex T t:=by
 intro s r hs
 obtain ⟨u,h1,h2,h3⟩:=h s r hs
 refine ⟨u,(bG ex s).2,(bG ex s).2.l.length.succ,?_,?_,h2,h3⟩
 ·unfold cB
  simp only
  rw [h1]
 ·rw [h3.len];exact Nat.lt_succ_self _
theorem Aa {s:PS} {r:List Tk} (hs:TkS s r) (hr:F6 r):∀ (m:Nat) (a:List EN),dA m a s=(a,s)
 | 0,_=>rfl
 | m+1,a=>by rw [dA,hs.no hr (by simp),if_neg (by decide)]
theorem S6.p6 (h:S6 ex T t):P6 ex T t:=by
 intro s r hs hr
 obtain ⟨u,s',m,h1,_,h2,h3⟩:=h s r hs
 rw [h1,Aa h3 hr]
 exact ⟨u,rfl,h2,h3⟩
theorem S6.s5 (h:S6 ex T t) (hT:∃ x y,T=x::y∧x.k≠3):S5 ex T t:=by
 intro s r hs hr
 obtain ⟨u,h1,h2,h3⟩:=h.p6 s r hs hr
 refine ⟨u,(cB ex s).2,(cB ex s).2.l.length.succ,?_,?_,h2,h3⟩
 ·obtain ⟨x,y,rfl,hx⟩:=hT
  unfold fM
  rw [TkS.has (t:=x) hs,if_neg (by simpa using hx)]
  simp only
  rw [h1]
 ·rw [h3.len];exact Nat.lt_succ_self _
theorem zq {s:PS} {r:List Tk} (hs:TkS s r) (hr:IQ r=false):∀ (m:Nat) (a:List EN),dO ex m a s=(a,s)
 | 0,_=>rfl
 | m+1,a=>by rw [dO,hs.begins,hr,Bool.and_false,if_neg (by decide)]
theorem S5.p4 (h:S5 ex T t):P4 ex T t:=by
 intro s r hs hr
 obtain ⟨u,s',m,h1,_,h2,h3⟩:=h s r hs hr.1
 rw [h1,zq h3 hr.2]
 exact ⟨u,rfl,h2,h3⟩
theorem P4.s3 (h:P4 ex T t):S3 ex T t:=by
 intro s r hs hr
 obtain ⟨u,h1,h2,h3⟩:=h s r hs hr
 refine ⟨u,(fM ex s).2,(fM ex s).2.l.length.succ,?_,?_,h2,h3⟩
 ·unfold eM
  rw [h1]
 ·rw [h3.len];exact Nat.lt_succ_self _
theorem uR {ops:List (List UInt8 × Int)} {sub:PS→PR} {s:PS} {r:List Tk} (hs:TkS s r) (hr:r9 (ops.map (·.1)) r=false):∀ (m:Nat) (a:List EN),eV ops sub m a s=(a,s)
 | 0,_=>rfl
 | m+1,a=>by rw [eV,hs.ops ops hr]
theorem S3.p3 (h:S3 ex T t):P3 ex T t:=by
 intro s r hs hr
 obtain ⟨u,s',m,h1,_,h2,h3⟩:=h s r hs hr.1
 rw [h1,uR (ops:=dk) h3 hr.2]
 exact ⟨u,rfl,h2,h3⟩
theorem P3.s2 (h:P3 ex T t):S2 ex T t:=by
 intro s r hs hr
 obtain ⟨u,h1,h2,h3⟩:=h s r hs hr
 refine ⟨u,(eM ex s).2,(eM ex s).2.l.length.succ,?_,?_,h2,h3⟩
 ·unfold j2
  rw [h1]
 ·rw [h3.len];exact Nat.lt_succ_self _
theorem S2.p2 (h:S2 ex T t):P2 ex T t:=by
 intro s r hs hr
 obtain ⟨u,s',m,h1,_,h2,h3⟩:=h s r hs hr.1
 rw [h1,uR (ops:=eS) h3 hr.2]
 exact ⟨u,rfl,h2,h3⟩
theorem P2.p1 (h:P2 ex T t):P1 ex T t:=by
 intro s r hs hr
 obtain ⟨u,h1,h2,h3⟩:=h s r hs hr.1
 unfold lP
 simp only
 rw [h3.ops gb hr.2]
 exact ⟨u,h1,h2,h3⟩
def JL (x:Tk):Prop:=x.k=1→x.s≠oC∧x.s≠kS∧x.s≠bIf
theorem P1.p0 (h:P1 ex T t) (hT:∃ x y,T=x::y∧JL x):P0 ex T t:=by
 intro s r hs hr
 have h1:=h s r hs hr
 obtain ⟨x,y,rfl,hx⟩:=hT
 have no:∀ w,(x.k=1→x.s≠w)→s.sees 1 w=false:=fun w hw=>by
  rw [TkS.sees (t:=x) hs]
  by_cases hk:x.k=1
  ·rw [decide_eq_false (hw hk),Bool.and_false]
  ·rw [decide_eq_false hk,Bool.false_and]
 unfold dS
 simp only
 rw [no oC fun e=>(hx e).1,no kS fun e=>(hx e).2.1,no bIf fun e=>(hx e).2.2,if_neg (by decide),if_neg (by decide),if_neg (by decide)]
 exact h1
theorem uV (hW:WT ex t):A7 ex (⟨7,[40],0⟩::(t.tks++[⟨7,[41],0⟩])) t:=by
 intro s r hs
 rw [List.cons_append,List.append_assoc] at hs
 obtain ⟨u,h1,h2,h3⟩:=hW s.next (⟨7,[41],0⟩::r) hs.next ⟨⟨⟨⟨rfl,rfl⟩,rfl⟩,rfl⟩,rfl⟩
 have e:bG ex s=((ex s.next).1,(ex s.next).2.must 7 [41]):=by
  unfold bG
  simp [hs.1,hs.peek.1,hs.sees]
 rw [e,h3.must]
 exact ⟨u,h1,h2,h3.next⟩
end
theorem iG {m n:EN} {us ts:List RT} (hm:{ can m with pos:=0 }={ n with pos:=0 }) (hu:us.map RT.np=ts.map RT.np):(RT.mk (can m) us).np=(RT.mk n ts).np:=by rw [RT.np,RT.np,my,my,hm,hu]
theorem eQ {m:EN} {us:List RT} (hw:aF m=us.length):az m (us.map RT.enc)=(RT.mk (can m) us).enc:=by rw [RT.enc,gK,oV (by rw [List.length_map];omega)]
theorem Ac {k N p:Int} {nm S:List UInt8} (hp:aw k=false):can ⟨k,0,0,0,N,nm,S,[],p⟩=⟨k,0,0,0,N,nm,S,[],p⟩:=by
 have g:∀ (m j:Nat),(List.replicate m (0:Int)).getD j 0=0:=fun m j=>by
  rw [List.getD_eq_getElem?_getD,List.getElem?_replicate]
  split<;>rfl
 unfold can aM
 simp only [g,hp,ite_self]
 rfl
theorem gP {n:EN} (h:ar n=true) (hc:can n=n) (hp:aw n.k=false) {K N p:Int} {nm S:List UInt8} (hK:K=n.k) (hN:N=if n.k=1∨n.k=2∨n.k=10 then n.n else 0)
  (hm:nm=if n.k=4∨n.k=5∨n.k=7∨n.k=8∨n.k=12∨n.k=13 then n.name else []) (hS:S=if n.k=3 then n.s else []):{ can ⟨K,0,0,0,N,nm,S,[],p⟩ with pos:=0 }={ n with pos:=0 }:=by
 subst hK
 rw [Ac hp]
 have e:=Jo h hc hp
 rw [← hN,← hm,← hS] at e
 conv=>rhs;rw [e]
end Go.Proofs.YtejpnabbmgpmaaaGreatDoor

namespace Go.Proofs.YtejpnabbmgpmaaaGreatDoor
open Go.Ab
theorem Kv {n:EN} (h:n.k=1):(RT.mk n []).tks=[⟨4,[],n.n⟩]:=by
 unfold RT.tks
 rw [RT.pcs]
 unfold pcN
 simp [h,bZ,eX,cn,er,ef,nmP,tgP,sgP,kwP]
theorem KQ {n:EN} (h:n.k=2):(RT.mk n []).tks=[⟨1,if n.n=1 then cC else bF,0⟩]:=by
 unfold RT.tks
 rw [RT.pcs]
 unfold pcN
 simp [h,bZ,eX,cn,er,ef,nmP,tgP,sgP,kwP]
theorem K9 {n:EN} (h:n.k=3):(RT.mk n []).tks=[⟨5,n.s,0⟩]:=by
 unfold RT.tks
 rw [RT.pcs]
 unfold pcN
 simp [h,bZ,eX,cn,er,ef,nmP,tgP,sgP,kwP]
theorem KR {n:EN} (h:n.k=4):(RT.mk n []).tks=[⟨2,n.name,0⟩]:=by
 unfold RT.tks
 rw [RT.pcs]
 unfold pcN
 simp [h,bZ,eX,cn,er,ef,nmP,tgP,sgP,kwP]
theorem kO (t:RT):dc 0 t=t.tks:=mc (Nat.zero_le _)
theorem LI {n:EN} {a:RT} (h:n.k=5):(RT.mk n [a]).tks=⟨1,oC,0⟩::⟨2,n.name,0⟩::⟨7,bTo,0⟩::a.tks:=by
 unfold RT.tks
 rw [RT.pcs]
 unfold pcN
 simp [h,bZ,eX,cn,er,ef,nmP,tgP,sgP,kwP,kO]
 rfl
theorem KK {n:EN} {a b:RT} (h:n.k=6):(RT.mk n [a,b]).tks=dc 5 a++dc 6 b:=by
 unfold RT.tks
 rw [RT.pcs]
 unfold pcN
 simp [h,bZ,eX,cn,er,ef,nmP,tgP,sgP,kwP]
theorem Ll {n:EN} {a b:RT} (h:n.k=7):(RT.mk n [a,b]).tks=⟨1,kS,0⟩::⟨2,n.name,0⟩::⟨7,[61],0⟩::(a.tks++⟨1,bIn,0⟩::b.tks):=by
 unfold RT.tks
 rw [RT.pcs]
 unfold pcN
 simp [h,bZ,eX,cn,er,ef,nmP,tgP,sgP,kwP,kO]
 rfl
theorem LL {n:EN} {a b:RT} (h:n.k=8):(RT.mk n [a,b]).tks=⟨1,kS,0⟩::⟨1,gh,0⟩::⟨2,n.name,0⟩::⟨7,[61],0⟩::(a.tks++⟨1,bIn,0⟩::b.tks):=by
 unfold RT.tks
 rw [RT.pcs]
 unfold pcN
 simp [h,bZ,eX,cn,er,ef,nmP,tgP,sgP,kwP,kO]
 rfl
theorem LN {n:EN} {a b c:RT} (h:n.k=9):(RT.mk n [a,b,c]).tks=⟨1,bIf,0⟩::(a.tks++⟨1,jQ,0⟩::(b.tks++⟨1,jU,0⟩::c.tks)):=by
 unfold RT.tks
 rw [RT.pcs]
 unfold pcN
 simp [h,bZ,eX,cn,er,ef,nmP,tgP,sgP,kwP,kO]
 rfl
theorem yI {n:EN} {a b:RT} (h:n.k=10):(RT.mk n [a,b]).tks=dc (max (ak n) 2) a++⟨7,eZ n.n,0⟩::dc (ak n+1) b:=by
 unfold RT.tks
 rw [RT.pcs]
 unfold pcN
 simp [h,bZ,eX,cn,er,ef,nmP,tgP,sgP,kwP]
theorem HL {n:EN} {a:RT} (h:n.k=12):(RT.mk n [a]).tks=dc 6 a++[⟨7,[46],0⟩,⟨2,n.name,0⟩]:=by
 unfold RT.tks
 rw [RT.pcs]
 unfold pcN
 simp [h,bZ,eX,cn,er,ef,nmP,tgP,sgP,kwP]
theorem Cp {n:EN} {a:RT} (h:n.k=13):(RT.mk n [a]).tks=⟨3,n.name,0⟩::dc 6 a:=by
 unfold RT.tks
 rw [RT.pcs]
 unfold pcN
 simp [h,bZ,eX,cn,er,ef,nmP,tgP,sgP,kwP]
def lW (sep:Tk) (hd:EF→List Tk):List EF→List RT→List Tk
 | f::l,u::us=>sep::(hd f++(u.tks++lW sep hd l us))
 | _,_=>[]
def eT (sep:Tk) (hd:EF→List Tk):List EF→List RT→List Tk
 | f::l,u::us=>hd f++(u.tks++lW sep hd l us)
 | _,_=>[]
def l8 (f:EF):List Tk:=[⟨2,f.nm,0⟩,⟨7,[61],0⟩]
def o0 (f:EF):List Tk:=[⟨3,f.nm,0⟩,⟨2,f.var,0⟩,⟨7,bTo,0⟩]
theorem xQ (sep:List Pc) (g:EF→Nat × List Pc→List Pc) (sp:Tk) (hd:EF→List Tk) (hs:tkP sep=[sp]) (hg:∀ f q,tkP (g f q)=hd f++tkP q.2):∀ (l:List EF) (us:List RT),
  tkP ((List.zipWith g l (RT.pcss us)).flatMap (sep++·))=lW sp hd l us
 | [],us=>by rw [List.zipWith_nil_left];cases us<;>rfl
 | f::l,[]=>by rw [RT.pcss,List.zipWith_nil_right];rfl
 | f::l,u::us=>by
   rw [RT.pcss,List.zipWith_cons_cons,List.flatMap_cons,bZ,bZ,hs,hg,xQ sep g sp hd hs hg l us,lW]
   simp [RT.tks]
theorem tH (sep:List Pc) (g:EF→Nat × List Pc→List Pc) (sp:Tk) (hd:EF→List Tk) (hs:tkP sep=[sp]) (hg:∀ f q,tkP (g f q)=hd f++tkP q.2):∀ (l:List EF) (us:List RT),
  tkP (fU sep (List.zipWith g l (RT.pcss us)))=eT sp hd l us
 | [],us=>by rw [List.zipWith_nil_left];cases us<;>rfl
 | f::l,[]=>by rw [RT.pcss,List.zipWith_nil_right];rfl
 | f::l,u::us=>by
   rw [RT.pcss,List.zipWith_cons_cons,fU,bZ,hg,xQ sep g sp hd hs hg l us,eT]
   simp [RT.tks]
theorem HB {n:EN} {us:List RT} (h:n.k=11):(RT.mk n us).tks=⟨7,[123],0⟩::(eT ⟨7,[44],0⟩ l8 n.l us++[⟨7,[125],0⟩]):=by
 unfold RT.tks
 rw [RT.pcs]
 unfold pcN
 have hp:=tH [sgP [44],.sp] oK ⟨7,[44],0⟩ l8 rfl (fun f q=>by simp [oK,l8,bZ,eX,cn,nmP,sgP]) n.l us
 simp [h,bZ,eX,cn,er,hp,nmP,tgP,sgP,kwP]
 rw [show [Pc.tok ⟨7,[44],0⟩,Pc.sp]=[sgP [44],.sp] from rfl,hp]
theorem HS {n:EN} {a:RT} {us:List RT} (h:n.k=14):(RT.mk n (a::us)).tks=⟨1,fV,0⟩::(a.tks++⟨1,bOf,0⟩::(eT ⟨7,[124],0⟩ o0 n.l us++[⟨1,sW,0⟩])):=by
 unfold RT.tks
 rw [RT.pcs]
 unfold pcN
 have hp:=tH [.sp,sgP [124],.sp] nI ⟨7,[124],0⟩ o0 rfl (fun f q=>by simp [nI,o0,bZ,eX,cn,nmP,sgP,tgP]) n.l us
 have hd:(RT.pcss (a::us)).drop 1=RT.pcss us:=by rw [RT.pcss];rfl
 have h0:=ef (a::us) 0 0 (by simp)
 rw [hd]
 simp only [h]
 rw [if_neg (by decide),if_neg (by decide),if_neg (by decide),if_neg (by decide),if_neg (by decide),if_neg (by decide),if_neg (by decide),if_neg (by decide),if_neg (by decide),if_neg (by decide),if_neg (by decide),if_neg (by decide),if_neg (by decide)]
 simp only [bZ,hp,h0]
 rw [List.getElem_cons_zero,kO]
 rfl
structure Hd (t:RT):Prop where
 some:∃ x y,t.tks=x::y
 five:5≤ak t.lab→∀ x y,t.tks=x::y→mm x=true
 one:1≤ak t.lab→∀ x y,t.tks=x::y→mm x=true∨x.k=3
theorem Hd.at5 {t:RT} (h:Hd t) {m:Nat} (hm:5≤m):∃ x y,dc m t=x::y∧mm x=true:=by
 by_cases hl:m≤ak t.lab
 ·rw [mc hl]
  obtain ⟨x,y,e⟩:=h.some
  exact ⟨x,y,e,h.five (by omega) x y e⟩
 ·rw [oc hl]
  exact ⟨_,_,rfl,rfl⟩
theorem Hd.at1 {t:RT} (h:Hd t) {m:Nat} (hm:1≤m):∃ x y,dc m t=x::y∧(mm x=true∨x.k=3):=by
 by_cases hl:m≤ak t.lab
 ·rw [mc hl]
  obtain ⟨x,y,e⟩:=h.some
  exact ⟨x,y,e,h.one (by omega) x y e⟩
 ·rw [oc hl]
  exact ⟨_,_,rfl,.inl rfl⟩
theorem ly {x:Tk} (h:mm x=true):x.k=4∨x.k=5∨x.k=2∨(x.k=1∧(x.s=cC∨x.s=bF∨x.s=fV))∨(x.k=7∧(x.s=[40]∨x.s=[123])):=by
 unfold mm at h
 simpa only [Bool.or_eq_true,Bool.and_eq_true,decide_eq_true_eq,or_assoc] using h
theorem H8 {x:Tk} (h:mm x=true∨x.k=3):JL x:=by
 intro h1
 rcases h with h | h
 ·rcases ly h with g | g | g | ⟨_,g⟩ | ⟨g,_⟩
  ·omega
  ·omega
  ·omega
  ·rcases g with g | g | g<;>rw [g]<;>decide
  ·omega
 ·omega
theorem KG {x:Tk} (h:mm x=true):x.k≠3:=by
 rcases ly h with g | g | g | ⟨g,_⟩ | ⟨g,_⟩<;>omega
theorem Lz {x:Tk} {r:List Tk} (h:mm x=true):F6 (x::r):=by
 unfold F6
 rw [lH]
 rcases ly h with g | g | g | ⟨g,_⟩ | ⟨g,g'⟩
 ·rw [decide_eq_false (by omega),Bool.false_and]
 ·rw [decide_eq_false (by omega),Bool.false_and]
 ·rw [decide_eq_false (by omega),Bool.false_and]
 ·rw [decide_eq_false (by omega),Bool.false_and]
 ·rcases g' with g' | g'<;>rw [g,g']<;>rfl
section
variable {ex:PS→PR}
theorem Ij {n:EN} {a:RT} (hk:n.k=12) (hg:(RT.mk n [a]).good) (ha:S6 ex (dc 6 a) a):S6 ex (RT.mk n [a]).tks (.mk n [a]):=by
 obtain ⟨⟨_,hc,hr⟩,_⟩:=bJ.1 hg
 intro s r hs
 rw [HL hk,List.append_assoc] at hs
 obtain ⟨u,s',m,h1,h2,h3,h4⟩:=ha s _ hs
 obtain ⟨m,rfl⟩:∃ q,m=q+1:=⟨m-1,by omega⟩
 simp only [List.cons_append,List.nil_append,List.length_cons] at h2 h4
 refine ⟨.mk (can { nd0 12 s'.peek.pos with name:=n.name }) [u],s'.next.next,m,?_,by omega,?_,h4.next.next⟩
 ·rw [h1,dA,h4.yes,if_pos rfl,h4.next.of]
  show dA m (az _ ([u].map RT.enc)) _=_
  rw [eQ rfl]
 ·exact iG (gP hr.1 hc (by rw [hk];rfl) hk.symm (by simp [hk,nd0]) (by simp [hk,nd0]) (by simp [hk,nd0])) (by simp [h3])
theorem IS {n:EN} {a b:RT} (hk:n.k=6) (hg:(RT.mk n [a,b]).good) (hb0:Hd b) (ha:S5 ex (dc 5 a) a) (hb:P6 ex (dc 6 b) b):S5 ex (RT.mk n [a,b]).tks (.mk n [a,b]):=by
 obtain ⟨⟨_,hc,hr⟩,_⟩:=bJ.1 hg
 intro s r hs hf
 rw [KK hk,List.append_assoc] at hs
 obtain ⟨x,y,hxy,hx⟩:=hb0.at5 (m:=6) (by decide)
 obtain ⟨u,s',m,h1,h2,h3,h4⟩:=ha s _ hs (by rw [hxy];exact Lz hx)
 obtain ⟨m,rfl⟩:∃ q,m=q+1:=⟨m-1,by omega⟩
 obtain ⟨v,g1,g2,g3⟩:=hb s' r h4 hf
 have hbg:s'.begins=true:=by rw [h4.begins,hxy];exact hx
 refine ⟨.mk (can (nd0 6 (dU u.enc).pos)) [u,v],(cB ex s').2,m,?_,?_,?_,g3⟩
 ·rw [h1,dO,decide_eq_true h4.1,hbg,if_pos (by decide),g1]
  show dO ex m (az _ ([u,v].map RT.enc)) _=_
  rw [eQ rfl]
 ·rw [hxy] at h2
  simp only [List.length_append,List.length_cons] at h2
  omega
 ·exact iG (gP hr.1 hc (by rw [hk];rfl) hk.symm (by simp [hk,nd0]) (by simp [hk,nd0]) (by simp [hk,nd0])) (by simp [h3,g2])
theorem JG {n:EN} {a:RT} (hk:n.k=13) (hg:(RT.mk n [a]).good) (ha:P6 ex (dc 6 a) a):P4 ex (RT.mk n [a]).tks (.mk n [a]):=by
 obtain ⟨⟨_,hc,hr⟩,_⟩:=bJ.1 hg
 intro s r hs hf
 rw [Cp hk,List.cons_append] at hs
 obtain ⟨v,g1,g2,g3⟩:=ha s.next r hs.next hf.1
 unfold fM
 rw [hs.has,if_pos (by simp)]
 simp only
 rw [g1,hs.peek.2.1]
 refine ⟨.mk (can { nd0 13 s.peek.pos with name:=n.name }) [v],?_,?_,g3⟩
 ·rw [← eQ rfl];rfl
 ·exact iG (gP hr.1 hc (by rw [hk];rfl) hk.symm (by simp [hk,nd0]) (by simp [hk,nd0]) (by simp [hk,nd0])) (by simp [g2])
theorem tB {ops:List (List UInt8 × Int)} {sub:PS→PR} {n:EN} {a b u:RT} (hk:n.k=10) (hg:(RT.mk n [a,b]).good) {s':PS} {r T:List Tk} {m:Nat} (hop:opS s' ops=some n.n)
  (_h4:TkS s' (⟨7,eZ n.n,0⟩::(T++r))) (h3:u.np=a.np) (hb:RdT (sub s'.next) b r) (h2:(⟨7,eZ n.n,0⟩::(T++r):List Tk).length<m) :
  ∃ (v:RT) (s2:PS) (m2:Nat),eV ops sub m u.enc s'=eV ops sub m2 v.enc s2∧r.length<m2∧v.np=(RT.mk n [a,b]).np∧TkS s2 r:=by
 obtain ⟨⟨_,hc,hr⟩,_⟩:=bJ.1 hg
 obtain ⟨v,g1,g2,g3⟩:=hb
 obtain ⟨m,rfl⟩:∃ q,m=q+1:=⟨m-1,by omega⟩
 refine ⟨.mk (can { nd0 10 s'.peek.pos with n:=n.n }) [u,v],(sub s'.next).2,m,?_,?_,?_,g3⟩
 ·rw [eV,hop]
  simp only
  rw [g1]
  show eV ops sub m (az _ ([u,v].map RT.enc)) _=_
  rw [eQ rfl]
 ·simp only [List.length_cons,List.length_append] at h2
  omega
 ·exact iG (gP hr.1 hc (by rw [hk];rfl) hk.symm (by simp [hk,nd0]) (by simp [hk,nd0]) (by simp [hk,nd0])) (by simp [h3,g2])
theorem CC {n:EN} (hk:n.k=10) (hr:ar n=true):n.n=1∨n.n=2∨n.n=3∨n.n=4∨n.n=5∨n.n=6∨n.n=7:=by
 unfold ar bH at hr
 simp only [Bool.and_eq_true] at hr
 obtain ⟨_,⟨⟨_,hC⟩,_⟩,_⟩:=hr
 rw [if_neg (by omega),if_neg (by omega),if_pos hk] at hC
 simp at hC
 omega
theorem Gn {n:EN} {a b:RT} (hk:n.k=10) (hn:n.n=3∨n.n=4) (hg:(RT.mk n [a,b]).good) (ha:S3 ex (dc 3 a) a) (hb:P4 ex (dc 4 b) b):S3 ex (RT.mk n [a,b]).tks (.mk n [a,b]):=by
 have ht:ak n=3:=by unfold ak;rw [if_neg (by omega),if_pos hk];rcases hn with h | h<;>rw [h]<;>rfl
 intro s r hs hf
 rw [yI hk,ht,show max 3 2=3 from rfl,List.append_assoc,List.cons_append] at hs
 obtain ⟨u,s',m,h1,h2,h3,h4⟩:=ha s _ hs (by rcases hn with h | h<;>rw [h]<;>exact ⟨rfl,rfl⟩)
 have hop:opS s' dk=some n.n:=by
  unfold dk
  rcases hn with h | h<;>rw [h] at h4 ⊢<;>simp [opS,h4.sees,eZ]
 obtain ⟨v,s2,m2,k1,k2,k3,k4⟩:=tB hk hg hop h4 h3 (hb s'.next r h4.next hf) h2
 exact ⟨v,s2,m2,h1.trans k1,k2,k3,k4⟩
theorem FB {n:EN} {a b:RT} (hk:n.k=10) (hn:n.n=1∨n.n=2∨n.n=7) (hg:(RT.mk n [a,b]).good) (ha:S2 ex (dc 2 a) a) (hb:P3 ex (dc 3 b) b):S2 ex (RT.mk n [a,b]).tks (.mk n [a,b]):=by
 have ht:ak n=2:=by unfold ak;rw [if_neg (by omega),if_pos hk];rcases hn with h | h | h<;>rw [h]<;>rfl
 intro s r hs hf
 rw [yI hk,ht,show max 2 2=2 from rfl,List.append_assoc,List.cons_append] at hs
 obtain ⟨u,s',m,h1,h2,h3,h4⟩:=ha s _ hs (by rcases hn with h | h | h<;>rw [h]<;>exact ⟨⟨rfl,rfl⟩,rfl⟩)
 have hop:opS s' eS=some n.n:=by
  unfold eS
  rcases hn with h | h | h<;>rw [h] at h4 ⊢<;>simp [opS,h4.sees,eZ]
 obtain ⟨v,s2,m2,k1,k2,k3,k4⟩:=tB hk hg hop h4 h3 (hb s'.next r h4.next hf) h2
 exact ⟨v,s2,m2,h1.trans k1,k2,k3,k4⟩
theorem FQ {n:EN} {a b:RT} (hk:n.k=10) (hn:n.n=5∨n.n=6) (hg:(RT.mk n [a,b]).good) (ha:P2 ex (dc 2 a) a) (hb:P2 ex (dc 2 b) b):P1 ex (RT.mk n [a,b]).tks (.mk n [a,b]):=by
 have ht:ak n=1:=by unfold ak;rw [if_neg (by omega),if_pos hk];rcases hn with h | h<;>rw [h]<;>rfl
 obtain ⟨⟨_,hc,hr⟩,_⟩:=bJ.1 hg
 intro s r hs hf
 rw [yI hk,ht,show max 1 2=2 from rfl,List.append_assoc,List.cons_append] at hs
 obtain ⟨u,h1,h2,h4⟩:=ha s _ hs (by rcases hn with h | h<;>rw [h]<;>exact ⟨⟨⟨rfl,rfl⟩,rfl⟩,rfl⟩)
 have hop:opS (j2 ex s).2 gb=some n.n:=by
  unfold gb
  rcases hn with h | h<;>rw [h] at h4 ⊢<;>simp [opS,h4.sees,eZ]
 obtain ⟨v,g1,g2,g3⟩:=hb (j2 ex s).2.next r h4.next hf.1
 unfold lP
 simp only
 rw [hop]
 simp only
 rw [h1,g1]
 refine ⟨.mk (can { nd0 10 (j2 ex s).2.peek.pos with n:=n.n }) [u,v],?_,?_,g3⟩
 ·rw [← eQ rfl];rfl
 ·exact iG (gP hr.1 hc (by rw [hk];rfl) hk.symm (by simp [hk,nd0]) (by simp [hk,nd0]) (by simp [hk,nd0])) (by simp [h2,g2])
theorem kF {n m:EN} {s:PS} {r:List Tk} {p:PR} (hw:aF m=0) (hm:{ can m with pos:=0 }={ n with pos:=0 }) (hp:p=(cA m,s.next)) (hs:TkS s.next r):RdT p (.mk n []) r:=by
 subst hp
 refine ⟨.mk (can m) [],?_,iG hm rfl,hs⟩
 show az m ([].map RT.enc)=_
 rw [eQ (by rw [hw];rfl)]
theorem I1 {n:EN} (hk:n.k=1) (hg:(RT.mk n []).good):A7 ex (RT.mk n []).tks (.mk n []):=by
 obtain ⟨⟨_,hc,hr⟩,_⟩:=bJ.1 hg
 intro s r hs
 rw [Kv hk,List.cons_append,List.nil_append] at hs
 refine kF (m:={ nd0 1 s.peek.pos with n:=n.n }) rfl (gP hr.1 hc (by rw [hk];rfl) hk.symm (by simp [hk,nd0]) (by simp [hk,nd0]) (by simp [hk,nd0])) ?_ hs.next
 unfold bG
 simp [hs.1,hs.peek.1,hs.peek.2.2]
theorem Iy {n:EN} (hk:n.k=3) (hg:(RT.mk n []).good):A7 ex (RT.mk n []).tks (.mk n []):=by
 obtain ⟨⟨_,hc,hr⟩,_⟩:=bJ.1 hg
 intro s r hs
 rw [K9 hk,List.cons_append,List.nil_append] at hs
 refine kF (m:={ nd0 3 s.peek.pos with s:=n.s }) rfl (gP hr.1 hc (by rw [hk];rfl) hk.symm (by simp [hk,nd0]) (by simp [hk,nd0]) (by simp [hk,nd0])) ?_ hs.next
 unfold bG
 simp [hs.1,hs.peek.1,hs.peek.2.1]
theorem Ih {n:EN} (hk:n.k=4) (hg:(RT.mk n []).good):A7 ex (RT.mk n []).tks (.mk n []):=by
 obtain ⟨⟨_,hc,hr⟩,_⟩:=bJ.1 hg
 intro s r hs
 rw [KR hk,List.cons_append,List.nil_append] at hs
 refine kF (m:={ nd0 4 s.peek.pos with name:=n.name }) rfl (gP hr.1 hc (by rw [hk];rfl) hk.symm (by simp [hk,nd0]) (by simp [hk,nd0]) (by simp [hk,nd0])) ?_ hs.next
 unfold bG
 simp [hs.1,hs.peek.1,hs.peek.2.1]
theorem Gc {n:EN} (hk:n.k=2) (hg:(RT.mk n []).good):A7 ex (RT.mk n []).tks (.mk n []):=by
 have h01:n.n=0∨n.n=1:=by
  obtain ⟨⟨_,_,hr⟩,_⟩:=bJ.1 hg
  have hr:=hr.1
  unfold ar bH at hr
  simp only [Bool.and_eq_true] at hr
  obtain ⟨_,⟨⟨_,hC⟩,_⟩,_⟩:=hr
  rw [if_neg (by omega),if_pos hk] at hC
  simp at hC
  exact hC.1
 obtain ⟨⟨_,hc,hr⟩,_⟩:=bJ.1 hg
 intro s r hs
 rw [KQ hk,List.cons_append,List.nil_append] at hs
 refine kF (m:={ nd0 2 s.peek.pos with n:=n.n }) rfl (gP hr.1 hc (by rw [hk];rfl) hk.symm (by simp [hk,nd0]) (by simp [hk,nd0]) (by simp [hk,nd0])) ?_ hs.next
 unfold bG
 rcases h01 with h | h
 ·rw [h] at hs ⊢
  rw [if_neg (by decide)] at hs
  simp [hs.1,hs.peek.1,hs.sees,cC,bF,nd0]
 ·rw [h] at hs ⊢
  rw [if_pos rfl] at hs
  simp [hs.1,hs.peek.1,hs.sees,cC,bF,nd0]
end
end Go.Proofs.YtejpnabbmgpmaaaGreatDoor

namespace Go.Proofs.YtejpnabbmgpmaaaGreatDoor
open Go.Ab
section
variable {ex:PS→PR}
theorem pb (sep:Tk) (hd:EF→List Tk):∀ (l:List EF) (us:List RT),l.length=us.length→l.length≤(lW sep hd l us).length
 | [],_,_=>Nat.zero_le _
 | f::l,[],h=>by cases h
 | f::l,u::us,h=>by
   have:=pb sep hd l us (by simpa using h)
   rw [lW]
   simp only [List.length_cons,List.length_append]
   omega
def OkP (l:List EF) (f:EF):Prop:=l.length≠30∧(l.any fun g=>decide (g.nm=f.nm))=false
theorem nw {bt:List UInt8} {part:PS→List EF→EF × PS} {hd:EF→List Tk} {w:EF→EF} (hw:∀ f,(w f).nm=f.nm)
  (hpart:∀ (f:EF) (l:List EF) (s:PS) (r:List Tk),OkP l f→TkS s (hd f++r)→(part s l).1=w f∧TkS (part s l).2 r) (hb:∀ x,F1 (⟨7,bt,0⟩::x)) {c:Tk} {r:List Tk} (hc:F1 (c::r)) (hcb:¬ (c.k=7∧c.s=bt)) :
  ∀ (fs:List EF) (us:List RT) (f:EF) (u:RT) (m:Nat) (s:PS) (l:List EF) (ks:List (List EN)),fs.length=us.length→(∀ x∈u::us,WT ex x)→l.length+fs.length+1≤30→(l.map (·.nm)++(f::fs).map (·.nm)).Nodup→fs.length<m →
   TkS s (eT ⟨7,bt,0⟩ hd (f::fs) (u::us)++c::r)→∃ (vs:List RT) (s':PS),bu ex bt part m s l ks=(l++(f::fs).map w,ks++vs.map RT.enc,s')∧vs.map RT.np=(u::us).map RT.np∧TkS s' (c::r):=by
 intro fs
 induction fs with
 | nil =>
   intro us f u m s l ks hl hW h30 hnd hm hs
   obtain rfl:us=[]:=List.length_eq_zero_iff.1 hl.symm
   obtain ⟨m,rfl⟩:∃ q,m=q+1:=⟨m-1,by omega⟩
   have hok:OkP l f:=by
    refine ⟨by simp only [List.length_nil] at h30;omega,?_⟩
    rw [Bool.eq_false_iff]
    intro h
    obtain ⟨g,hg,he⟩:=List.any_eq_true.1 h
    exact (List.nodup_append.1 hnd).2.2 g.nm (List.mem_map_of_mem hg) f.nm (by simp) (of_decide_eq_true he)
   rw [eT,lW,List.append_nil,List.append_assoc] at hs
   ·obtain ⟨h1,h2⟩:=hpart f l s _ hok hs
    obtain ⟨v,g1,g2,g3⟩:=hW u List.mem_cons_self _ _ h2 hc
    refine ⟨[v],(ex (part s l).2).2,?_,by simp [g2],g3⟩
    unfold bu
    simp only
    rw [g3.sees,if_neg (by simpa using hcb),h1,g1]
    rfl
   ·intro f l u us h;cases h
 | cons g fs ih =>
   intro us f u m s l ks hl hW h30 hnd hm hs
   obtain ⟨v,us,rfl⟩:∃ v y,us=v::y:=by
    cases us with
    | nil=>cases hl
    | cons v y=>exact ⟨v,y,rfl⟩
   obtain ⟨m,rfl⟩:∃ q,m=q+1:=⟨m-1,by omega⟩
   simp only [List.length_cons] at hl h30 hm
   have hok:OkP l f:=by
    refine ⟨by omega,?_⟩
    rw [Bool.eq_false_iff]
    intro h
    obtain ⟨g,hg,he⟩:=List.any_eq_true.1 h
    exact (List.nodup_append.1 hnd).2.2 g.nm (List.mem_map_of_mem hg) f.nm (by simp) (of_decide_eq_true he)
   rw [eT,lW,List.append_assoc,List.append_assoc,List.cons_append] at hs
   obtain ⟨h1,h2⟩:=hpart f l s _ hok hs
   obtain ⟨a,g1,g2,g3⟩:=hW u List.mem_cons_self _ _ h2 (hb _)
   obtain ⟨vs,s',k1,k2,k3⟩:=ih us g v m (ex (part s l).2).2.next (l++[w f]) (ks++[(ex (part s l).2).1]) (by omega) (fun x hx=>hW x (List.mem_cons_of_mem _ hx)) (by simp only [List.length_append,List.length_singleton];omega)
    (by simpa [hw,List.append_assoc] using hnd) (by omega) (by rw [eT];exact g3.next)
   refine ⟨a::vs,s',?_,by rw [List.map_cons,List.map_cons,k2,g2],k3⟩
   rw [bu]
   rw [g3.yes,if_pos rfl,h1,k1,g1,List.append_assoc,List.append_assoc]
   rfl
theorem qf {s:PS} {t:Tok} {l:List EF} {f:EF} (h:OkP l f) (he:s.err=0) (ht:t.s=f.nm):s.parted t l=s:=by
 unfold PS.parted
 rw [if_neg (by simpa using he),if_neg h.1,ht,h.2,if_neg (by decide)]
theorem vW (f:EF) (l:List EF) (s:PS) (r:List Tk) (h:OkP l f) (hs:TkS s (l8 f++r)):(dM s l).1=⟨f.nm,[],0⟩∧TkS (dM s l).2 r:=by
 unfold l8 at hs
 simp only [List.cons_append,List.nil_append] at hs
 unfold dM
 simp only
 rw [hs.of]
 simp only [true_and]
 rw [qf h hs.next.1 hs.peek.2.1,hs.next.must]
 exact hs.next.next
theorem uE (f:EF) (l:List EF) (s:PS) (r:List Tk) (h:OkP l f) (hs:TkS s (o0 f++r)):(cH s l).1=⟨f.nm,f.var,0⟩∧TkS (cH s l).2 r:=by
 unfold o0 at hs
 simp only [List.cons_append,List.nil_append] at hs
 unfold cH
 simp only
 rw [hs.of]
 rw [qf h hs.next.1 hs.peek.2.1,hs.next.of]
 simp only [true_and]
 rw [hs.next.next.must]
 exact hs.next.next.next
theorem o7 {n:EN} (h:ar n=true) (hc:can n=n) (hp:aw n.k=true) {K p:Int} {L:List EF} (hK:K=n.k) (hL:L=n.l.map (fun f=>(⟨f.nm,if n.k=14 then f.var else [],0⟩:EF))) :
  aF { nd0 K p with l:=L }=aF n∧{ can { nd0 K p with l:=L } with pos:=0 }={ n with pos:=0 }:=by
 have e:=zw h hc hp
 rw [← hL] at e
 subst hK
 have e2:({ nd0 n.k p with l:=L }:EN)={ n with pos:=p }:=by
  rw [e];rfl
 rw [e2]
 refine ⟨rfl,?_⟩
 show { can n with pos:=0 }=_
 rw [hc]
theorem nT {n:EN} (h:ar n=true) (hp:aw n.k=true):n.l.length≤30∧(n.l.map (·.nm)).Nodup∧(n.k=14→1≤n.l.length):=by
 unfold ar bm at h
 rw [hp,if_pos rfl] at h
 simp only [Bool.and_eq_true,decide_eq_true_eq] at h
 obtain ⟨_,⟨_,⟨_,⟨h1,h2⟩,h3⟩⟩,_⟩:=h
 exact ⟨h2,h3,fun h14=>by rw [if_pos h14] at h1;exact h1⟩
theorem JS {n:EN} {us:List RT} (hk:n.k=11) (hg:(RT.mk n us).good) (hW:∀ u∈us,WT ex u):A7 ex (RT.mk n us).tks (.mk n us):=by
 obtain ⟨⟨hwd,hc,hr⟩,_⟩:=bJ.1 hg
 have hp:aw n.k=true:=by rw [hk];rfl
 obtain ⟨h30,hnd,_⟩:=nT hr.1 hp
 have hlen:n.l.length=us.length:=by
  have:aF n=n.l.length:=by unfold aF;rw [hp,hk,if_pos rfl];exact Nat.zero_add _
  omega
 intro s r hs
 rw [HB hk,List.cons_append,List.append_assoc] at hs
 have e:bG ex s=cK ex s.next s.peek.pos:=by
  unfold bG
  simp [hs.1,hs.peek.1,hs.sees]
 rw [e]
 cases us with
 | nil =>
   have hl0:n.l=[]:=List.length_eq_zero_iff.1 hlen
   rw [hl0,eT] at hs
   ·simp only [List.nil_append,List.cons_append] at hs
    unfold cK
    rw [hs.next.yes,if_pos rfl]
    exact kF (m:=nd0 11 s.peek.pos) rfl (o7 hr.1 hc hp hk.symm (by rw [hl0];rfl)).2 rfl hs.next.next
   ·intro _ _ _ _ h;cases h
 | cons u us =>
   obtain ⟨f,fs,hfs⟩:∃ f y,n.l=f::y:=by
    cases hl:n.l with
    | nil=>rw [hl] at hlen;cases hlen
    | cons f y=>exact ⟨f,y,rfl⟩
   rw [hfs] at hs hlen h30 hnd
   simp only [List.length_cons] at hlen h30
   have hno:s.next.sees 7 [125]=false:=by
    have h:=hs.next
    rw [eT,l8,List.cons_append,List.cons_append] at h
    rw [h.sees];rfl
   have hfu:fs.length<s.next.l.length.succ:=by
    rw [hs.next.len,eT]
    have:=pb ⟨7,[44],0⟩ l8 fs us (by omega)
    simp only [List.length_append,List.length_cons]
    omega
   obtain ⟨vs,s',k1,k2,k3⟩:=nw (ex:=ex) (bt:=[44]) (part:=dM) (hd:=l8) (w:=fun f=>⟨f.nm,[],0⟩) (fun _=>rfl) vW (fun _=>⟨⟨⟨⟨rfl,rfl⟩,rfl⟩,rfl⟩,rfl⟩) (c:=⟨7,[125],0⟩) (r:=r) ⟨⟨⟨⟨rfl,rfl⟩,rfl⟩,rfl⟩,rfl⟩ (fun h=>by have:=h.2;simp at this)
    fs us f u s.next.l.length.succ s.next [] [] (by omega) hW (by simp only [List.length_nil];omega) (by simpa using hnd) hfu hs.next
   unfold cK
   rw [hno,if_neg (by decide),k1]
   simp only [List.nil_append]
   rw [k3.must]
   obtain ⟨n1,n2⟩:=o7 (p:=s.peek.pos) (L:=(f::fs).map fun f=>(⟨f.nm,[],0⟩:EF)) hr.1 hc hp hk.symm (by rw [hfs];refine List.map_congr_left fun f _=>?_;rw [if_neg (by omega)])
   refine ⟨.mk (can { nd0 11 s.peek.pos with l:=(f::fs).map fun f=>(⟨f.nm,[],0⟩:EF) }) vs,?_,iG n2 k2,k3.next⟩
   rw [← eQ (by rw [n1,hwd];have:=congrArg List.length k2;simpa using this.symm)]
theorem Gm {n:EN} {a:RT} {us:List RT} (hk:n.k=14) (hg:(RT.mk n (a::us)).good) (hW:∀ u∈a::us,WT ex u):A7 ex (RT.mk n (a::us)).tks (.mk n (a::us)):=by
 obtain ⟨⟨hwd,hc,hr⟩,_⟩:=bJ.1 hg
 have hp:aw n.k=true:=by rw [hk];rfl
 obtain ⟨h30,hnd,h1l⟩:=nT hr.1 hp
 have h1l:=h1l hk
 have hlen:n.l.length=us.length:=by
  have:aF n=1+n.l.length:=by unfold aF;rw [hp,hk,if_pos rfl];rfl
  rw [List.length_cons] at hwd
  omega
 intro s r hs
 rw [HS hk,List.cons_append,List.append_assoc,List.cons_append,List.append_assoc] at hs
 have e:bG ex s=dY ex s.next s.peek.pos:=by
  unfold bG
  simp [hs.1,hs.peek.1,hs.sees,cC,bF,fV]
 rw [e]
 obtain ⟨v0,g1,g2,g3⟩:=hW a List.mem_cons_self _ _ hs.next ⟨⟨⟨⟨rfl,rfl⟩,rfl⟩,rfl⟩,rfl⟩
 obtain ⟨f,fs,hfs⟩:∃ f y,n.l=f::y:=by
  cases hl:n.l with
  | nil=>rw [hl] at h1l;exact absurd h1l (by decide)
  | cons f y=>exact ⟨f,y,rfl⟩
 obtain ⟨u,us,rfl⟩:∃ v y,us=v::y:=by
  cases us with
  | nil=>rw [hfs] at hlen;cases hlen
  | cons v y=>exact ⟨v,y,rfl⟩
 rw [hfs] at g3 hlen h30 hnd
 simp only [List.length_cons] at hlen h30
 have g4:=g3.next
 have hfu:fs.length<(ex s.next).2.next.l.length.succ:=by
  rw [g4.len,eT]
  have:=pb ⟨7,[124],0⟩ o0 fs us (by omega)
  simp only [List.length_append,List.length_cons]
  omega
 obtain ⟨vs,s',k1,k2,k3⟩:=nw (ex:=ex) (bt:=[124]) (part:=cH) (hd:=o0) (w:=fun f=>⟨f.nm,f.var,0⟩) (fun _=>rfl) uE (fun _=>⟨⟨⟨⟨rfl,rfl⟩,rfl⟩,rfl⟩,rfl⟩) (c:=⟨1,sW,0⟩) (r:=r) ⟨⟨⟨⟨rfl,rfl⟩,rfl⟩,rfl⟩,rfl⟩ (fun h=>by have:=h.1;simp at this)
  fs us f u _ (ex s.next).2.next [] [] (by omega) (fun x hx=>hW x (List.mem_cons_of_mem _ hx)) (by simp only [List.length_nil];omega) (by simpa using hnd) hfu g4
 unfold dY
 simp only
 rw [g3.must,k1]
 simp only [List.nil_append]
 rw [k3.must,g1]
 obtain ⟨n1,n2⟩:=o7 (p:=s.peek.pos) (L:=(f::fs).map fun f=>(⟨f.nm,f.var,0⟩:EF)) hr.1 hc hp hk.symm (by rw [hfs];refine List.map_congr_left fun f _=>?_;rw [if_pos hk])
 refine ⟨.mk (can { nd0 14 s.peek.pos with l:=(f::fs).map fun f=>(⟨f.nm,f.var,0⟩:EF) }) (v0::vs),?_,iG n2 (by rw [List.map_cons,List.map_cons,g2,k2]),k3.next⟩
 rw [← eQ (by rw [n1,hwd];have:=congrArg List.length k2;simp at this;simp [this])]
 rfl
theorem Il (u:RT):(dU u.enc).k=u.lab.k:=by
 cases u with
 | mk n ts =>
   rw [RT.enc]
   unfold dU ndE az
   simp [fT,RT.lab]
theorem JP {u t:RT} (h:u.np=t.np):u.lab.k=t.lab.k:=by
 cases u with
 | mk n ts =>
   cases t with
   | mk m us =>
     rw [RT.np,RT.np] at h
     have h1:=(RT.mk.inj h).1
     exact by
      have h2:=congrArg EN.k h1
      exact h2
theorem Iw {n:EN} {a:RT} (hk:n.k=5) (hg:(RT.mk n [a]).good) (ha:WT ex a):P0 ex (RT.mk n [a]).tks (.mk n [a]):=by
 obtain ⟨⟨_,hc,hr⟩,_⟩:=bJ.1 hg
 intro s r hs hf
 rw [LI hk] at hs
 simp only [List.cons_append] at hs
 obtain ⟨v,g1,g2,g3⟩:=ha _ _ hs.next.next.next hf
 unfold dS
 simp only
 rw [hs.yes,if_pos rfl,hs.next.of]
 simp only
 rw [hs.next.next.must,g1]
 refine ⟨.mk (can { nd0 5 s.peek.pos with name:=n.name }) [v],?_,?_,g3⟩
 ·rw [← eQ rfl];rfl
 ·exact iG (gP hr.1 hc (by rw [hk];rfl) hk.symm (by simp [hk,nd0]) (by simp [hk,nd0]) (by simp [hk,nd0])) (by simp [g2])
theorem Lh {n:EN} {a b c:RT} (hk:n.k=9) (hg:(RT.mk n [a,b,c]).good) (ha:WT ex a) (hb:WT ex b) (hcw:WT ex c):P0 ex (RT.mk n [a,b,c]).tks (.mk n [a,b,c]):=by
 obtain ⟨⟨_,hc,hr⟩,_⟩:=bJ.1 hg
 intro s r hs hf
 rw [LN hk] at hs
 simp only [List.cons_append,List.append_assoc] at hs
 obtain ⟨u,a1,a2,a3⟩:=ha _ _ hs.next ⟨⟨⟨⟨rfl,rfl⟩,rfl⟩,rfl⟩,rfl⟩
 obtain ⟨v,b1,b2,b3⟩:=hb _ _ a3.next ⟨⟨⟨⟨rfl,rfl⟩,rfl⟩,rfl⟩,rfl⟩
 obtain ⟨w,c1,c2,c3⟩:=hcw _ _ b3.next hf
 have e:dS ex s=ifS ex s.next s.peek.pos:=by
  unfold dS
  simp [hs.sees,oC,kS,bIf]
 rw [e]
 unfold ifS
 simp only
 rw [a3.must,b3.must,a1,b1,c1]
 refine ⟨.mk (can (nd0 9 s.peek.pos)) [u,v,w],?_,?_,c3⟩
 ·rw [← eQ rfl];rfl
 ·exact iG (gP hr.1 hc (by rw [hk];rfl) hk.symm (by simp [hk,nd0]) (by simp [hk,nd0]) (by simp [hk,nd0])) (by simp [a2,b2,c2])
theorem JA {n:EN} {a b:RT} (hk:n.k=7) (hg:(RT.mk n [a,b]).good) (ha:WT ex a) (hb:WT ex b):P0 ex (RT.mk n [a,b]).tks (.mk n [a,b]):=by
 obtain ⟨⟨_,hc,hr⟩,_⟩:=bJ.1 hg
 intro s r hs hf
 rw [Ll hk] at hs
 simp only [List.cons_append,List.append_assoc] at hs
 obtain ⟨u,a1,a2,a3⟩:=ha _ _ hs.next.next.next ⟨⟨⟨⟨rfl,rfl⟩,rfl⟩,rfl⟩,rfl⟩
 obtain ⟨v,b1,b2,b3⟩:=hb _ _ a3.next hf
 have e:dS ex s=jY ex s.next s.peek.pos:=by
  unfold dS
  simp [hs.sees,oC,kS,bIf]
 have hno:s.next.sees 1 gh=false:=by rw [hs.next.sees];rfl
 have hmay:s.next.may 1 gh=s.next:=by unfold PS.may;rw [hno,if_neg (by decide)]
 rw [e]
 unfold jY
 simp only
 rw [hno,hmay,hs.next.of]
 simp only
 rw [hs.next.next.must,if_neg (by decide),if_neg (fun h=>absurd h.1 (by decide)),a3.must,a1,b1]
 refine ⟨.mk (can { nd0 7 s.peek.pos with name:=n.name }) [u,v],?_,?_,b3⟩
 ·rw [← eQ rfl];rfl
 ·exact iG (gP hr.1 hc (by rw [hk];rfl) hk.symm (by simp [hk,nd0]) (by simp [hk,nd0]) (by simp [hk,nd0])) (by simp [a2,b2])
theorem I0 {n:EN} {a b:RT} (hk:n.k=8) (hg:(RT.mk n [a,b]).good) (h5:a.lab.k=5) (ha:WT ex a) (hb:WT ex b):P0 ex (RT.mk n [a,b]).tks (.mk n [a,b]):=by
 obtain ⟨⟨_,hc,hr⟩,_⟩:=bJ.1 hg
 intro s r hs hf
 rw [LL hk] at hs
 simp only [List.cons_append,List.append_assoc] at hs
 obtain ⟨u,a1,a2,a3⟩:=ha _ _ hs.next.next.next.next ⟨⟨⟨⟨rfl,rfl⟩,rfl⟩,rfl⟩,rfl⟩
 obtain ⟨v,b1,b2,b3⟩:=hb _ _ a3.next hf
 have e:dS ex s=jY ex s.next s.peek.pos:=by
  unfold dS
  simp [hs.sees,oC,kS,bIf]
 have hrt:(dU (ex s.next.next.next.next).1).k=5:=by rw [a1,Il,JP a2,h5]
 rw [e]
 unfold jY
 simp only
 rw [hs.next.yes,hs.next.may,hs.next.next.of]
 simp only
 simp only [if_true]
 rw [hs.next.next.next.must,if_neg (fun h=>h.2 hrt),a3.must,a1,b1]
 refine ⟨.mk (can { nd0 8 s.peek.pos with name:=n.name }) [u,v],?_,?_,b3⟩
 ·rw [← eQ rfl];rfl
 ·exact iG (gP hr.1 hc (by rw [hk];rfl) hk.symm (by simp [hk,nd0]) (by simp [hk,nd0]) (by simp [hk,nd0])) (by simp [a2,b2])
structure Lv (ex:PS→PR) (t:RT):Prop where
 c6:6≤ak t.lab→S6 ex t.tks t
 c5:5≤ak t.lab→S5 ex t.tks t
 c4:4≤ak t.lab→P4 ex t.tks t
 c3:3≤ak t.lab→S3 ex t.tks t
 c2:2≤ak t.lab→S2 ex t.tks t
 c0:P0 ex t.tks t
theorem Hd.ok {t:RT} (h:Hd t) (ht:1≤ak t.lab):∃ x y,t.tks=x::y∧JL x:=by
 obtain ⟨x,y,e⟩:=h.some
 exact ⟨x,y,e,H8 (h.one ht x y e)⟩
theorem lv0 {t:RT} (ht:ak t.lab=0) (h:P0 ex t.tks t):Lv ex t:=⟨fun g=>by omega,fun g=>by omega,fun g=>by omega,fun g=>by omega,fun g=>by omega,h⟩
theorem lv1 {t:RT} (hd:Hd t) (ht:ak t.lab=1) (h:P1 ex t.tks t):Lv ex t:=⟨fun g=>by omega,fun g=>by omega,fun g=>by omega,fun g=>by omega,fun g=>by omega,h.p0 (hd.ok (by omega))⟩
theorem lv2 {t:RT} (hd:Hd t) (ht:ak t.lab=2) (h:S2 ex t.tks t):Lv ex t:=⟨fun g=>by omega,fun g=>by omega,fun g=>by omega,fun g=>by omega,fun _=>h,h.p2.p1.p0 (hd.ok (by omega))⟩
theorem lv3 {t:RT} (hd:Hd t) (ht:ak t.lab=3) (h:S3 ex t.tks t):Lv ex t:=⟨fun g=>by omega,fun g=>by omega,fun g=>by omega,fun _=>h,fun _=>h.p3.s2,h.p3.s2.p2.p1.p0 (hd.ok (by omega))⟩
theorem lv4 {t:RT} (hd:Hd t) (ht:ak t.lab=4) (h:P4 ex t.tks t):Lv ex t:=⟨fun g=>by omega,fun g=>by omega,fun _=>h,fun _=>h.s3,fun _=>h.s3.p3.s2,h.s3.p3.s2.p2.p1.p0 (hd.ok (by omega))⟩
theorem lv5 {t:RT} (hd:Hd t) (ht:ak t.lab=5) (h:S5 ex t.tks t):Lv ex t:=⟨fun g=>by omega,fun _=>h,fun _=>h.p4,fun _=>h.p4.s3,fun _=>h.p4.s3.p3.s2,h.p4.s3.p3.s2.p2.p1.p0 (hd.ok (by omega))⟩
theorem lv6 {t:RT} (hd:Hd t) (ht:6≤ak t.lab) (h:S6 ex t.tks t):Lv ex t:=by
 have h5:S5 ex t.tks t:=h.s5 (by
  obtain ⟨x,y,e⟩:=hd.some
  exact ⟨x,y,e,KG (hd.five (by omega) x y e)⟩)
 exact ⟨fun _=>h,fun _=>h5,fun _=>h5.p4,fun _=>h5.p4.s3,fun _=>h5.p4.s3.p3.s2,h5.p4.s3.p3.s2.p2.p1.p0 (hd.ok (by omega))⟩
theorem Lv.k6 {t:RT} (h:Lv ex t) (hW:WT ex t):S6 ex (dc 6 t) t:=by
 by_cases hl:6≤ak t.lab
 ·rw [mc hl];exact h.c6 hl
 ·rw [oc hl];exact (uV hW).s6
theorem Lv.k5 {t:RT} (h:Lv ex t) (hW:WT ex t):S5 ex (dc 5 t) t:=by
 by_cases hl:5≤ak t.lab
 ·rw [mc hl];exact h.c5 hl
 ·rw [oc hl];exact (uV hW).s6.s5 ⟨_,_,rfl,by decide⟩
theorem Lv.k4 {t:RT} (h:Lv ex t) (hW:WT ex t):P4 ex (dc 4 t) t:=by
 by_cases hl:4≤ak t.lab
 ·rw [mc hl];exact h.c4 hl
 ·rw [oc hl];exact ((uV hW).s6.s5 ⟨_,_,rfl,by decide⟩).p4
theorem Lv.k3 {t:RT} (h:Lv ex t) (hW:WT ex t):S3 ex (dc 3 t) t:=by
 by_cases hl:3≤ak t.lab
 ·rw [mc hl];exact h.c3 hl
 ·rw [oc hl];exact ((uV hW).s6.s5 ⟨_,_,rfl,by decide⟩).p4.s3
theorem Lv.k2 {t:RT} (h:Lv ex t) (hW:WT ex t):S2 ex (dc 2 t) t:=by
 by_cases hl:2≤ak t.lab
 ·rw [mc hl];exact h.c2 hl
 ·rw [oc hl];exact ((uV hW).s6.s5 ⟨_,_,rfl,by decide⟩).p4.s3.p3.s2
end
theorem Fy {n:EN} {ts:List RT} (h:aF n=ts.length) (hw:aF n=0):ts=[]:=List.length_eq_zero_iff.1 (by omega)
theorem JX {n:EN} {ts:List RT} (h:aF n=ts.length) (hw:aF n=1):∃ a,ts=[a]:=List.length_eq_one_iff.1 (by omega)
theorem Fq {n:EN} {ts:List RT} (h:aF n=ts.length) (hw:aF n=2):∃ a b,ts=[a,b]:=by
 match ts,h.symm.trans hw with
 | [a,b],_=>exact ⟨a,b,rfl⟩
theorem L8 {n:EN} {ts:List RT} (h:aF n=ts.length) (hw:aF n=3):∃ a b c,ts=[a,b,c]:=by
 match ts,h.symm.trans hw with
 | [a,b,c],_=>exact ⟨a,b,c,rfl⟩
theorem xf {n:EN} {ts:List RT} (hg:(RT.mk n ts).good):((n.k=1∨n.k=2∨n.k=3∨n.k=4)∧ts=[])∨((n.k=5∨n.k=12∨n.k=13)∧∃ a,ts=[a])∨((n.k=6∨n.k=7∨n.k=8∨n.k=10)∧∃ a b,ts=[a,b])∨(n.k=9∧∃ a b c,ts=[a,b,c])∨n.k=11∨(n.k=14∧∃ a us,ts=a::us):=by
 obtain ⟨⟨hw,hc,hr⟩,_⟩:=bJ.1 hg
 obtain ⟨h1,h2⟩:=fW hr.1
 have hk:n.k=1∨n.k=2∨n.k=3∨n.k=4∨n.k=5∨n.k=6∨n.k=7∨n.k=8∨n.k=9∨n.k=10∨n.k=11∨n.k=12∨n.k=13∨n.k=14:=by omega
 have wk:∀ k:Int,n.k=k→aF n=aG k+(if aw k then n.l.length else 0):=fun k h=>by unfold aF;rw [h]
 rcases hk with h | h | h | h | h | h | h | h | h | h | h | h | h | h
 ·exact .inl ⟨by omega,Fy hw (wk _ h)⟩
 ·exact .inl ⟨by omega,Fy hw (wk _ h)⟩
 ·exact .inl ⟨by omega,Fy hw (wk _ h)⟩
 ·exact .inl ⟨by omega,Fy hw (wk _ h)⟩
 ·exact .inr (.inl ⟨by omega,JX hw (wk _ h)⟩)
 ·exact .inr (.inr (.inl ⟨by omega,Fq hw (wk _ h)⟩))
 ·exact .inr (.inr (.inl ⟨by omega,Fq hw (wk _ h)⟩))
 ·exact .inr (.inr (.inl ⟨by omega,Fq hw (wk _ h)⟩))
 ·exact .inr (.inr (.inr (.inl ⟨h,L8 hw (wk _ h)⟩)))
 ·exact .inr (.inr (.inl ⟨by omega,Fq hw (wk _ h)⟩))
 ·exact .inr (.inr (.inr (.inr (.inl h))))
 ·exact .inr (.inl ⟨by omega,JX hw (wk _ h)⟩)
 ·exact .inr (.inl ⟨by omega,JX hw (wk _ h)⟩)
 ·refine .inr (.inr (.inr (.inr (.inr ⟨h,?_⟩))))
  have:=wk _ h
  cases ts with
  | nil=>rw [this] at hw;exact absurd hw (by rw [show aG 14=1 from rfl,List.length_nil];omega)
  | cons a us=>exact ⟨a,us,rfl⟩
theorem wv:∀ (d:Nat) (t:RT),t.dep≤d→t.good→Hd t
 | 0,.mk n ts,h,_=>by rw [RT.dep] at h;omega
 | d+1,.mk n ts,h,hg=>by
   obtain ⟨_,hgs⟩:=bJ.1 hg
   rw [RT.dep] at h
   have kid:∀ u∈ts,Hd u:=fun u hu=>wv d u (by have:=sq hu;omega) (hgs u hu)
   have easy:∀ x y,(RT.mk n ts).tks=x::y→(1≤ak n→mm x=true)→Hd (.mk n ts):=fun x y e hx =>
    ⟨⟨x,y,e⟩,fun h5 x' y' e'=>by rw [e] at e';cases e';exact hx (by have:ak (RT.mk n ts).lab=ak n:=rfl;omega),fun h1 x' y' e'=>by rw [e] at e';cases e';exact .inl (hx h1)⟩
   rcases xf hg with ⟨hk,rfl⟩ | ⟨hk,a,rfl⟩ | ⟨hk,a,b,rfl⟩ | ⟨hk,a,b,c,rfl⟩ | hk | ⟨hk,a,us,rfl⟩
   ·rcases hk with hk | hk | hk | hk
    ·exact easy _ _ (Kv hk) fun _=>rfl
    ·exact easy _ _ (KQ hk) fun _=>by by_cases h1:n.n=1<;>simp [mm,h1]
    ·exact easy _ _ (K9 hk) fun _=>rfl
    ·exact easy _ _ (KR hk) fun _=>rfl
   ·rcases hk with hk | hk | hk
    ·exact easy _ _ (LI hk) fun ht=>absurd ht (by unfold ak;rw [if_pos (by omega)];decide)
    ·obtain ⟨x,y,e,hx⟩:=(kid a (by simp)).at5 (m:=6) (by decide)
     exact easy x (y++[⟨7,[46],0⟩,⟨2,n.name,0⟩]) (by rw [HL hk,e];rfl) fun _=>hx
    ·refine ⟨⟨_,_,Cp hk⟩,fun h5=>?_,fun _ x y e=>?_⟩
     ·have:ak (RT.mk n [a]).lab=4:=by
       show ak n=4
       unfold ak
       rw [if_neg (by omega),if_neg (by omega),if_pos hk]
      omega
     ·rw [Cp hk] at e
      cases e
      exact .inr rfl
   ·rcases hk with hk | hk | hk | hk
    ·obtain ⟨x,y,e,hx⟩:=(kid a (by simp)).at5 (m:=5) (by decide)
     exact easy x (y++dc 6 b) (by rw [KK hk,e];rfl) fun _=>hx
    ·exact easy _ _ (Ll hk) fun ht=>absurd ht (by unfold ak;rw [if_pos (by omega)];decide)
    ·exact easy _ _ (LL hk) fun ht=>absurd ht (by unfold ak;rw [if_pos (by omega)];decide)
    ·obtain ⟨x,y,e,hx⟩:=(kid a (by simp)).at1 (m:=max (ak n) 2) (by omega)
     have e2:(RT.mk n [a,b]).tks=x::(y++⟨7,eZ n.n,0⟩::dc (ak n+1) b):=by rw [yI hk,e];rfl
     refine ⟨⟨_,_,e2⟩,fun h5=>?_,fun _ x' y' e'=>by rw [e2] at e';cases e';exact hx⟩
     have:ak (RT.mk n [a,b]).lab≤3:=by
      show ak n≤3
      unfold ak
      rw [if_neg (by omega),if_pos hk]
      (repeat' split)<;>omega
     omega
   ·exact easy _ _ (LN hk) fun ht=>absurd ht (by unfold ak;rw [if_pos (by omega)];decide)
   ·exact easy _ _ (HB hk) fun _=>rfl
   ·exact easy _ _ (HS hk) fun _=>rfl
theorem En (m:Nat) (hW:∀ u:RT,u.good→u.lk→u.dep≤m→WT (cZ m) u):∀ (d:Nat) (t:RT),t.dep≤d→t.dep≤m+1→t.good→t.lk→Lv (cZ m) t
 | 0,.mk n ts,h,_,_,_=>by rw [RT.dep] at h;omega
 | d+1,.mk n ts,h,hm,hg,hl=>by
   obtain ⟨⟨hwd,hc,hr⟩,hgs⟩:=bJ.1 hg
   have hd:=wv _ _ (Nat.le_refl _) hg
   rw [RT.dep] at h hm
   rw [RT.lk,sH] at hl
   have kd:∀ u∈ts,u.dep≤d∧u.dep≤m:=fun u hu=>by have:=sq hu;exact ⟨by omega,by omega⟩
   have kw:∀ u∈ts,WT (cZ m) u:=fun u hu=>hW u (hgs u hu) (hl.2 u hu) (kd u hu).2
   have kl:∀ u∈ts,Lv (cZ m) u:=fun u hu=>En m hW d u (kd u hu).1 (by have:=(kd u hu).2;omega) (hgs u hu) (hl.2 u hu)
   have kh:∀ u∈ts,Hd u:=fun u hu=>wv _ _ (Nat.le_refl _) (hgs u hu)
   have ht:ak (RT.mk n ts).lab=ak n:=rfl
   rcases xf hg with ⟨hk,rfl⟩ | ⟨hk,a,rfl⟩ | ⟨hk,a,b,rfl⟩ | ⟨hk,a,b,c,rfl⟩ | hk | ⟨hk,a,us,rfl⟩
   ·have h7:6≤ak (RT.mk n []).lab:=by
     rw [ht];unfold ak
     rw [if_neg (by omega),if_neg (by omega),if_neg (by omega),if_neg (by omega),if_neg (by omega)];decide
    rcases hk with hk | hk | hk | hk
    ·exact lv6 hd h7 (I1 hk hg).s6
    ·exact lv6 hd h7 (Gc hk hg).s6
    ·exact lv6 hd h7 (Iy hk hg).s6
    ·exact lv6 hd h7 (Ih hk hg).s6
   ·have la:=kl a (by simp)
    have wa:=kw a (by simp)
    rcases hk with hk | hk | hk
    ·exact lv0 (by rw [ht];unfold ak;rw [if_pos (by omega)]) (Iw hk hg wa)
    ·exact lv6 hd (by rw [ht];unfold ak;rw [if_neg (by omega),if_neg (by omega),if_neg (by omega),if_neg (by omega),if_pos hk];decide) (Ij hk hg (la.k6 wa))
    ·exact lv4 hd (by rw [ht];unfold ak;rw [if_neg (by omega),if_neg (by omega),if_pos hk]) (JG hk hg (la.k6 wa).p6)
   ·have la:=kl a (by simp)
    have wa:=kw a (by simp)
    have lb:=kl b (by simp)
    have wb:=kw b (by simp)
    rcases hk with hk | hk | hk | hk
    ·exact lv5 hd (by rw [ht];unfold ak;rw [if_neg (by omega),if_neg (by omega),if_neg (by omega),if_pos hk]) (IS hk hg (kh b (by simp)) (la.k5 wa) (lb.k6 wb).p6)
    ·exact lv0 (by rw [ht];unfold ak;rw [if_pos (by omega)]) (JA hk hg wa wb)
    ·exact lv0 (by rw [ht];unfold ak;rw [if_pos (by omega)]) (I0 hk hg (hl.1 hk) wa wb)
    ·have h3:n.n=3∨n.n=4→ak n=3:=fun hn=>by unfold ak;rw [if_neg (by omega),if_pos hk];rcases hn with h | h<;>rw [h]<;>rfl
     have h2:n.n=1∨n.n=2∨n.n=7→ak n=2:=fun hn=>by unfold ak;rw [if_neg (by omega),if_pos hk];rcases hn with h | h | h<;>rw [h]<;>rfl
     have h1:n.n=5∨n.n=6→ak n=1:=fun hn=>by unfold ak;rw [if_neg (by omega),if_pos hk];rcases hn with h | h<;>rw [h]<;>rfl
     have h7:=CC hk hr.1
     have hn:(n.n=3∨n.n=4)∨(n.n=1∨n.n=2∨n.n=7)∨(n.n=5∨n.n=6):=by omega
     rcases hn with hn | hn | hn
     ·exact lv3 hd (by rw [ht];exact h3 hn) (Gn hk hn hg (la.k3 wa) (lb.k4 wb))
     ·exact lv2 hd (by rw [ht];exact h2 hn) (FB hk hn hg (la.k2 wa) (lb.k3 wb).p3)
     ·exact lv1 hd (by rw [ht];exact h1 hn) (FQ hk hn hg (la.k2 wa).p2 (lb.k2 wb).p2)
   ·exact lv0 (by rw [ht];unfold ak;rw [if_pos (by omega)]) (Lh hk hg (kw a (by simp)) (kw b (by simp)) (kw c (by simp)))
   ·exact lv6 hd (by rw [ht];unfold ak;rw [if_neg (by omega),if_neg (by omega),if_neg (by omega),if_neg (by omega),if_neg (by omega)];decide) (JS hk hg kw).s6
   ·exact lv6 hd (by rw [ht];unfold ak;rw [if_neg (by omega),if_neg (by omega),if_neg (by omega),if_neg (by omega),if_neg (by omega)];decide) (Gm hk hg kw).s6
theorem HX:∀ (m:Nat) (t:RT),t.good→t.lk→t.dep≤m→WT (cZ m) t
 | 0,.mk n ts,_,_,h=>by rw [RT.dep] at h;omega
 | m+1,t,hg,hl,h=>by
   have hv:=En m (fun u h1 h2 h3=>HX m u h1 h2 h3) _ t (Nat.le_refl _) h hg hl
   intro s r hs hf
   obtain ⟨u,h1,h2,h3⟩:=hv.c0 { s with nest:=s.nest+1 } r hs hf
   unfold cZ
   rw [if_neg (by simpa using hs.1)]
   exact ⟨u,h1,h2,h3⟩
end Go.Proofs.YtejpnabbmgpmaaaGreatDoor

namespace Go.Proofs.YtejpnabbmgpmaaaGreatDoor
open Go.Ab
def n0 (n:EN):EN:={ n with pos:=0 }
theorem D3:∀ (ls:List (List EN)) (acc:List EN) (rs:List Int),br (ls.map (List.map n0)) (acc.map n0) rs=((br ls acc rs).1.map n0,(br ls acc rs).2)
 | [],_,_=>rfl
 | l::r,acc,rs=>by
   have e:(l.map n0).map (ax acc.length)=(l.map (ax acc.length)).map n0:=by rw [List.map_map,List.map_map];rfl
   rw [List.map_cons,br,br,List.length_map,List.length_map,e,← List.map_append]
   exact D3 r _ _
theorem GW (n:EN) (ls:List (List EN)):az (n0 n) (ls.map (List.map n0))=(az n ls).map n0:=by
 have:=D3 ls [] []
 rw [List.map_nil] at this
 unfold az
 rw [this,List.map_append]
 rfl
mutual
theorem nD:∀ t:RT,t.np.enc=t.enc.map n0
 | .mk n ts=>by
   rw [RT.np,RT.enc,RT.enc,yj ts,← GW]
   rfl
theorem yj:∀ ts:List RT,RT.encs (RT.nps ts)=(RT.encs ts).map (List.map n0)
 | []=>rfl
 | t::r=>by rw [RT.nps,RT.encs,RT.encs,nD t,yj r];rfl
end
theorem JV (n:EN):can (n0 n)=n0 n↔can n=n:=by
 have e:can (n0 n)=n0 (can n):=rfl
 have p:(can n).pos=n.pos:=rfl
 rw [e]
 generalize can n=m at p ⊢
 constructor
 ·intro h
  unfold n0 at h
  obtain ⟨k,a,b,c,x,nm,s,l,q⟩:=m
  obtain ⟨k',a',b',c',x',nm',s',l',q'⟩:=n
  simp only at p
  simp only [EN.mk.injEq] at h ⊢
  simp only [h,p,true_and,and_self]
 ·intro h
  rw [h]
mutual
theorem Dn:∀ t:RT,t.np.ok↔t.ok
 | .mk n ts=>by
   rw [RT.np,RT.ok,RT.ok,DT ts,my,List.length_map]
   exact and_congr_left' (and_congr_right' (JV n))
theorem DT:∀ ts:List RT,RT.oks (RT.nps ts)↔RT.oks ts
 | []=>Iff.rfl
 | t::r=>by rw [RT.nps,RT.oks,RT.oks,Dn t,DT r]
end
theorem CM (t:RT):ak t.np.lab=ak t.lab:=by cases t;rfl
mutual
theorem vS:∀ t:RT,t.np.pcs=t.pcs
 | .mk n ts=>by
   rw [RT.np,RT.pcs,RT.pcs,y7 ts]
   rfl
theorem y7:∀ ts:List RT,RT.pcss (RT.nps ts)=RT.pcss ts
 | []=>rfl
 | t::r=>by rw [RT.nps,RT.pcss,RT.pcss,vS t,y7 r,CM t]
end
theorem Ch (ns:List EN) (i:Nat):ndE (ns.map n0) i=n0 (ndE ns i):=by
 unfold ndE
 rw [List.getD_eq_getElem?_getD,List.getD_eq_getElem?_getD,List.getElem?_map]
 cases ns[i]?<;>rfl
theorem Cr {n:EN} (h:0≤n.pos∧n.pos≤1048576):ar (n0 n)=ar n:=by
 have e:ar (n0 n)=(decide (1≤n.k) && decide (n.k≤14) && decide ((0:Int)≤0) && decide ((0:Int)≤1048576) && (da n && bH n && bm n && ez n)):=rfl
 rw [e]
 unfold ar
 rw [decide_eq_true h.1,decide_eq_true h.2]
 rfl
theorem yW:∀ (ns:List EN) (d:List Int),bw (ns.map n0) d=bw ns d
 | [],_=>rfl
 | n::r,d=>by
   rw [List.map_cons,bw,bw]
   exact yW r _
theorem B9 {ns:List EN} (h:∀ n∈ns,0≤n.pos∧n.pos≤1048576):dt (ns.map n0)=dt ns:=by
 have e1:okE (ns.map n0)=okE ns:=by
  unfold okE
  rw [List.length_map,Bool.eq_iff_iff,List.all_eq_true,List.all_eq_true]
  have key:∀ i,i<ns.length→(ar (ndE (ns.map n0) i) && b7 (ns.map n0) i)=(ar (ndE ns i) && b7 ns i):=fun i hi=>by
   have hr:ar (ndE (ns.map n0) i)=ar (ndE ns i):=by
    rw [Ch]
    exact Cr (by rw [bh hi];exact h _ (List.getElem_mem hi))
   have hl:b7 (ns.map n0) i=b7 ns i:=by
    unfold b7
    rw [Ch,Ch]
    rfl
   rw [hr,hl]
  constructor
  ·intro g i hi
   rw [← key i (List.mem_range.1 hi)]
   exact g i hi
  ·intro g i hi
   rw [key i (List.mem_range.1 hi)]
   exact g i hi
 have e2:gO (ns.map n0)=gO ns:=by
  unfold gO ox
  rw [List.length_map,DR]
  rfl
 have e3:fw (ns.map n0)=fw ns:=by
  unfold fw
  rw [yW,List.length_map]
 unfold dt
 rw [List.length_map,e1,e2,e3]
theorem Hz:∀ l:List (Nat × Fnd),(∀ q∈l,q.2.e=0)→fO l=none
 | [],_=>rfl
 | q::r,h=>by
   rw [fO,if_neg (by rw [h q List.mem_cons_self];decide)]
   exact Hz r fun x hx=>h x (List.mem_cons_of_mem _ hx)
theorem tG {P:List Pc} (hs:iw P) (hok:∀ t∈tkP P,OkT t):(bS (txP P)).2.2=0∧(bS (txP P)).1.map Tok.tk=tkP P:=by
 obtain ⟨h1,h2⟩:=qY P hs hok (txP P).length.succ 0 (Nat.lt_succ_self _)
 unfold bS aL
 rw [Hz _ h2]
 refine ⟨rfl,?_⟩
 rw [← h1,List.map_map]
 rfl
theorem yb {B:Nat}:∀ ts:List RT,(∀ t∈ts,t.dep≤B)→RT.deps ts≤B
 | [],_=>Nat.zero_le _
 | t::r,h=>by
   have h1:=h t List.mem_cons_self
   have h2:=yb r fun x hx=>h x (List.mem_cons_of_mem _ hx)
   rw [RT.deps]
   omega
theorem Ea {ns:List EN} (ht:bx ns):∀ (m i:Nat),i<m→i<ns.length→((rtE ns m i).dep:Int)≤(bw ns []).getD i 0
 | 0,_,h,_=>absurd h (Nat.not_lt_zero _)
 | m+1,i,him,hi=>by
   have hk:∀ c∈aj (ndE ns i),0≤c∧c<(i:Int):=fun c hc=>aE (aN ht) hi c hc
   have hd:=kg hi hk
   rw [rtE,Int.toNat_natCast,RT.dep]
   have h0:0≤mx (bw ns []) (aj (ndE ns i)):=by
    have g:∀ (ks:List Int) (a:Int),0≤a→0≤ks.foldl (fun m k=>max m ((bw ns []).getD k.toNat 0)) a:=fun ks=>by
     induction ks with
     | nil=>exact fun a h=>h
     | cons k r ih=>exact fun a h=>ih _ (by show 0≤max a _;omega)
    exact g _ 0 (Int.le_refl 0)
   have:=yb (B:=(mx (bw ns []) (aj (ndE ns i))).toNat) ((aj (ndE ns i)).map (rtE ns m)) fun t htm=>by
    obtain ⟨k,hkk,rfl⟩:=List.mem_map.1 htm
    obtain ⟨h3,h4⟩:=hk k hkk
    have h5:=HK (d:=bw ns []) hkk
    obtain ⟨k,rfl⟩:∃ q:Nat,k=(q:Int):=⟨k.toNat,by omega⟩
    have h6:=Ea ht m k (by omega) (by omega)
    rw [Int.toNat_natCast] at h5
    omega
   omega
theorem JQ {ns:List EN} (ht:bx ns):(trE ns (ns.length-1)).dep≤100:=by
 have hp:=ht.pos
 have h:=Ea ht ns.length (ns.length-1) (by omega) (by omega)
 have hd:=ht.deep
 unfold fw at hd
 unfold trE
 omega
theorem wE {t:RT} (hg:t.good) (hl:t.lk) (hd:t.dep≤100) (hm:dt t.enc=0) (hlen:(txP t.pcs).length≤1048576):∃ u:RT,eh (txP t.pcs)=(u.enc,0,0)∧u.np=t.np∧u.ok∧dt u.enc=0:=by
 obtain ⟨hx1,hx2⟩:=tG (nN t) (mT t hg.rt)
 have hs:TkS (iU (bS (txP t.pcs)).1 (bS (txP t.pcs)).2.1) (t.tks++[]):=⟨rfl,by rw [List.append_nil];exact hx2⟩
 obtain ⟨u,h1,h2,h3⟩:=HX 100 t hg hl hd _ [] hs ⟨⟨⟨⟨rfl,rfl⟩,rfl⟩,rfl⟩,rfl⟩
 have hpl:=yV 100 _ (Bb hx1)
 have hpu:∀ n∈u.enc,0≤n.pos∧n.pos≤1048576:=fun n hn=>by
  rw [← h1] at hn
  have:=hpl n hn
  unfold Pq at this
  omega
 have hpt:∀ n∈t.enc,0≤n.pos∧n.pos≤1048576:=fun n hn=>zS (lD t hg.rt n hn).1
 have hmu:dt u.enc=0:=by rw [← B9 hpu,← nD,h2,nD,B9 hpt,hm]
 refine ⟨u,?_,h2,(Dn u).1 (h2 ▸ (Dn t).2 hg.ok),hmu⟩
 have hd:oy (cZ 100 (iU (bS (txP t.pcs)).1 (bS (txP t.pcs)).2.1)).2=(cZ 100 (iU (bS (txP t.pcs)).1 (bS (txP t.pcs)).2.1)).2:=by
  unfold oy
  rw [List.map_eq_nil_iff.1 h3.2];rfl
 unfold eh
 rw [if_neg (by rw [hx1];decide),hd,h1]
 unfold om
 have hany:(u.enc.any fun n=>decide (1048576<n.pos))=false:=by
  rw [List.any_eq_false]
  intro n hn
  have:=hpu n hn
  simp only [decide_eq_true_eq]
  omega
 rw [if_neg (by rw [h3.1];decide),hany,if_neg (by decide),if_neg (by rw [hmu];decide)]
theorem An {ns:List EN} (hm:dt ns=0) (hr:∀ n∈ns,inR n.n) (hlen:(txP (trE ns (ns.length-1)).pcs).length≤1048576) :
  ∃ us:List EN,eh (txP (trE ns (ns.length-1)).pcs)=(us,0,0)∧dt us=0∧us.map n0=((trE ns (ns.length-1)).enc).map n0∧(trE us (us.length-1)).enc=us∧(trE us (us.length-1)).pcs=(trE ns (ns.length-1)).pcs:=by
 have ht:=tW hm
 have hp:=ht.pos
 have hi:ns.length-1<ns.length:=by omega
 have hmt:dt (trE ns (ns.length-1)).enc=0:=by rw [qT ht hi];exact rG ht hi
 obtain ⟨u,h1,h2,h3,h4⟩:=wE (mM ht hr hi) (H5 ht _ _ hi hi) (JQ ht) hmt hlen
 have hu:=zY h3
 refine ⟨u.enc,h1,h4,by rw [← nD,← nD,h2],by rw [hu],by rw [hu,← vS u,h2,vS]⟩
end Go.Proofs.YtejpnabbmgpmaaaGreatDoor

namespace Go.Proofs.YtejpnabbmgpmaaaGreatDoor
open Go.Ab
def prS (a:AV) (xs:List D) (l:List UInt8):List (Name × Ob):=[([0],.boxT (some 55) [.d (.sl (some 9) xs),a,.vw [1] 0 l.length]),([1],.arrT (some 5) none (l.map byD))]
def prM (xs:List D) (l:List UInt8):List (Name × Ob):=[([0],.boxT (some 55) [.d (.sl (some 9) xs),.bx [0] 1,.vw [2] 0 l.length]),([2],.arrT (some 5) none (l.map byD))]
def av:Bool→AV
 | false=>.d .nilp
 | true=>.bx [0] 1
attribute [go_sem] av
theorem F4 {G} (xs:List D) (l:List UInt8):HCall Tryz.prog G 135 [.bx [0] 1] (prS (.d .nilp) xs l) [0,1] (fun r hp'=>r=.tup []∧hp'=prS (.bx [0] 1) xs l):=by
 unfold prS
 refine ao Tryz.func135 rfl (by decide +kernel) (by simp [Tryz.ntmps135]) (veil fun E=>?_)
 simp only [go_sem]
 refine lz E (e:=53) true (by rw [nF]) (by simp only [go_sem]) rfl ?_
 simp only [go_sem]
 refine Hy E (e:=53) [0] 1 55 [.d (.sl (some 9) xs),.d .nilp,.vw [1] 0 l.length] (by rw [nF]) Fc (by kernel_rfl) (by simp only [go_sem]) rfl rfl (by simp) ?_
 simp only [go_sem]
 refine xX E 154 (.bx [0] 1) noesc (by simp only [go_sem]) rfl rfl ?_
 simp only [go_sem]
 simp only [HJ]
 simp only [go_sem]
 refine HG E (e:=53) [0] 1 55 [.d (.sl (some 9) xs),.d .nilp,.vw [1] 0 l.length] (by rw [nF]) Fc (by kernel_rfl) (by simp only [go_sem]) rfl rfl 3 rfl (by kernel_rfl) ?_
 simp only [go_sem]
 refine ⟨_,_,[0,1],id,⟨rfl,rfl⟩,?_⟩
 simp only [go_sem]
theorem E7 {G} (xs:List D) (l:List UInt8):HCall Tryz.prog G 135 [.bx [0] 1] (prS (.bx [0] 1) xs l) [0,1] (fun r hp'=>r=.tup []∧hp'=prS (.bx [0] 1) xs l):=by
 unfold prS
 refine ao Tryz.func135 rfl (by decide +kernel) (by simp [Tryz.ntmps135]) (veil fun E=>?_)
 simp only [go_sem]
 refine lz E (e:=53) false (by rw [nF]) (by simp only [go_sem]) rfl ?_
 simp only [go_sem]
 refine y8 E (e:=53) [0] 1 (by rw [nF]) (by kernel_rfl) (by simp only [go_sem]) rfl rfl rfl ?_
 simp only [go_sem]
 refine ⟨_,_,[0,1],id,⟨rfl,rfl⟩,?_⟩
 simp only [go_sem]
theorem Cc {G} (b:Bool) (xs:List D) (l s:List UInt8) (hl:l.length+s.length≤1000000000):HCall Tryz.prog G 108 [.bx [0] 1,.d (.str s)] (prS (av b) xs l) [0,1] (fun r hp'=>r=.tup [.d (i64 (s.length:Nat)),.d .nili]∧hp'=prM xs (l++s)):=by
 have h0:HCall Tryz.prog G 135 [.bx [0] 1] (prS (av b) xs l) [0,1] (fun r hp'=>r=.tup []∧hp'=prS (.bx [0] 1) xs l):=by
  cases b
  ·exact F4 xs l
  ·exact E7 xs l
 have hlm:(l.map byD).length=l.length:=by simp
 unfold prS at *
 unfold prM
 cases b
 all_goals
  simp only [av] at h0
  refine ao Tryz.func108 rfl (by decide +kernel) (by simp [Tryz.ntmps108]) (veil fun E=>?_)
  simp only [go_sem]
  refine ab E [.bx [0] 1] _ [0,1] h0 rfl rfl ⟨by simp only [go_sem],by rw [aa];decide⟩ rfl (by simp only [go_sem]) (by simp only [go_sem]) ?_
  rintro _ _ ⟨rfl,rfl⟩
  simp only [go_sem]
  refine ⟨Nat.le_refl _,?_⟩
  refine qk E (d:=14) (e:=5) (some 5) [1] (l.map byD) s (by rw [BA]) (by rw [ti9]) (by rw [ti5];rfl) (by rw [ti5];rfl) (by rw [ti5];rfl) rfl ⟨by simp only [go_sem],by rw [aa];decide⟩ (by rw [hlm];rfl) rfl rfl (by rw [ti5,hlm];simp [TI.by1];omega) ?_
  rw [hlm,← List.map_append]
  simp only [go_sem]
  refine ⟨_,_,[0,1,2],tau [([2],[14])],⟨rfl,rfl⟩,?_⟩
  rw [show (l++s).length=l.length+s.length by simp]
  simp only [go_sem]
theorem Ku {G} (xs:List D) (l:List UInt8) (h0:l≠[]) (hl:l.length≤1000000000):HCall Tryz.prog G 29 [.bx [0] 1] (prS (.bx [0] 1) xs l) [0,1] (fun r hp'=>r=.d (.str l)∧hp'=[]):=by
 unfold prS
 refine ao Tryz.func29 rfl (by decide +kernel) (by simp [Tryz.ntmps29]) (veil fun E=>?_)
 simp only [go_sem]
 refine ig 10 mixed E (by simp only [List.take_succ_cons,List.take_zero];exact rfl) (by simp only [List.drop_succ_cons,List.drop_zero];exact rfl) rfl rfl (by decide +kernel) fun X=>?_
 simp only [go_sem]
 refine ga X (d:=4) [0] 1 (some 55) [.d (.sl (some 9) xs),.bx [0] 1,.vw [1] 0 l.length] (by simp only [go_sem]) rfl rfl ?_
 simp only [go_sem]
 refine HU X (d:=7) [1] (some 5) none (l.map byD) l.length (by simp only [go_sem]) rfl rfl (List.length_pos_iff.2 h0) ?_
 simp only [go_sem]
 refine ga X (d:=9) [0] 1 (some 55) [.d (.sl (some 9) xs),.bx [0] 1,.vw [1] 0 l.length] (by simp only [go_sem]) rfl rfl ?_
 simp only [go_sem]
 refine ⟨by decide +kernel,?_⟩
 refine BH E (e:=5) [1] l (by simp only [go_sem]) u91 AZ h0 (by omega) rfl rfl rfl ?_
 simp only [go_sem]
 refine ⟨_,_,[0,1],id,⟨rfl,rfl⟩,?_⟩
 simp only [go_sem]
end Go.Proofs.YtejpnabbmgpmaaaGreatDoor

namespace Go.Proofs.YtejpnabbmgpmaaaGreatDoor
open Go.Ab
def prX (a:AV) (xs:List D) (l:List UInt8):List (Name × Ob):=[([0],.boxT (some 55) [.d (.sl (some 9) xs),a,.vw [98] 0 l.length]),([98],.arrT (some 5) none (l.map byD))]
theorem Ak {L:List (List UInt8)} {i:Nat} (h:i<L.length):(L.take (i+1)).flatten=(L.take i).flatten++L.getD i []:=by
 rw [List.take_succ_eq_append_getElem h,List.flatten_append,List.getD_eq_getElem?_getD,List.getElem?_eq_getElem h]
 simp
theorem zj:∀ (L:List (List UInt8)) (i:Nat),(L.take i).flatten.length≤L.flatten.length
 | [],i=>by rw [List.take_nil];exact Nat.le_refl _
 | a::L,0=>Nat.zero_le _
 | a::L,i+1=>by
   have:=zj L i
   rw [List.take_succ_cons,List.flatten_cons,List.flatten_cons,List.length_append,List.length_append]
   omega
theorem aD {G} (b:Bool) (xs:List D) (l:List UInt8) (L:List (List UInt8)) (h1:1≤L.length) (hn:L.length≤1000) (hl:l.length+L.flatten.length≤900000000) :
  HCall Tryz.prog G 59 [.bx [0] 0,.d (.sl none (L.map .str))] (prS (av b) xs l) [0,1] (fun r hp'=>r=.tup []∧hp'=prM xs (l++L.flatten)):=by
 have hml:(L.map D.str).length=L.length:=List.length_map ..
 have hget:=fun i (h:i<L.length)=>iV (l:=L) h
 have hst:=fun i (h:i<L.length)=>Ak (L:=L) h
 have hle:=zj L
 have hend:∀ T,T=l++(L.take L.length).flatten→T=l++L.flatten:=fun T h=>by rw [h,List.take_length]
 generalize hR:l++L.flatten=R at hend ⊢
 unfold prS prM
 cases b with
 | false =>
   refine ao Tryz.func59 rfl (by decide +kernel) (by simp [Tryz.ntmps59]) (veil fun E=>?_)
   simp only [go_sem]
   refine aU E (X:={ x:Nat × Bool // x.1≤L.length∧(x.1≠0→x.2=true) }) (fun x=>[(0,.bx [0] 0),(6,.d (.sl none (L.map .str))),(7,.d (i64 (L.length:Nat))),(8,.d (i64 x.1.1))])
    (fun x=>prX (av x.1.2) xs (l++(L.take x.1.1).flatten)) [0,1,98] (fun x=>L.length-x.1.1) ⟨(0,false),Nat.zero_le _,fun h=>absurd rfl h⟩ (tau [([98],[1])]) ?_ ?_
   ·unfold prX
    simp only [go_sem]
    rw [List.flatten_nil,List.append_nil]
    all_goals ((repeat' apply And.intro)<;>first | rfl | trivial)
   rintro ⟨⟨i,b'⟩,hi,hb⟩ E0
   refine bk E0 fun Q' hQ E'=>?_
   simp only at hi hb ⊢
   have hs0:=hst i
   have hl0:=hle i
   have hen:=hend (l++(L.take i).flatten)
   generalize hacc:l++(L.take i).flatten=acc at hen
   have hal:acc.length+(L.getD i []).length≤900000000:=by
    rw [← hacc,List.length_append]
    by_cases hi':i<L.length
    ·have h2:=hle (i+1)
     rw [hs0 hi',List.length_append] at h2
     omega
    ·rw [List.getD_eq_getElem?_getD,List.getElem?_eq_none (by omega)]
     simp only [Option.getD_none,List.length_nil]
     omega
   have hc:=fun bb=>Cc (G:=G) bb xs acc (L.getD i []) (by omega)
   unfold prS prM at hc
   unfold prX
   cases b' with
   | false =>
     have hi0:i=0:=by
      by_cases h:i=0
      ·exact h
      ·exact absurd (hb h) (by decide)
     have hc:=hc false
     simp only [av] at hc
     simp only [go_sem]
     refine ai E' (fun g=>?_) (fun g=>?_)<;>simp only [go_sem]
     ·have hi':i<L.length:=by omega
      have hs1:=hs0 hi'
      refine ⟨by omega,?_⟩
      rw [hget i hi']
      simp only [go_sem]
      generalize L.getD i []=s at hs1 hc
      have hnx:l++(L.take (i+1)).flatten=acc++s:=by rw [hs1,← hacc,List.append_assoc]
      refine ah E' (tau [([1],[98])]) [.bx [0] 1,.d (.str s)] _ [0,1] hc rfl rfl ⟨by simp only [go_sem],by rw [aa];decide⟩ rfl (by simp only [go_sem]) (by simp only [go_sem]) ?_
      rintro _ _ ⟨rfl,rfl⟩
      simp only [go_sem]
      rw [al ⟨by omega,by omega⟩,hQ]
      simp only [go_sem]
      refine ⟨⟨(i+1,true),by omega,fun _=>rfl⟩,by show L.length-(i+1)<L.length-i;omega,tau [([98],[16,2])],?_⟩
      simp only [hnx]
      unfold prX
      simp only [go_sem]
      all_goals ((repeat' apply And.intro)<;>first | rfl | trivial)
     ·omega
   | true =>
     have hc:=hc true
     simp only [av] at hc
     simp only [go_sem]
     refine ai E' (fun g=>?_) (fun g=>?_)<;>simp only [go_sem]
     ·have hi':i<L.length:=by omega
      have hs1:=hs0 hi'
      refine ⟨by omega,?_⟩
      rw [hget i hi']
      simp only [go_sem]
      generalize L.getD i []=s at hs1 hc
      have hnx:l++(L.take (i+1)).flatten=acc++s:=by rw [hs1,← hacc,List.append_assoc]
      refine ah E' (tau [([1],[98])]) [.bx [0] 1,.d (.str s)] _ [0,1] hc rfl rfl ⟨by simp only [go_sem],by rw [aa];decide⟩ rfl (by simp only [go_sem]) (by simp only [go_sem]) ?_
      rintro _ _ ⟨rfl,rfl⟩
      simp only [go_sem]
      rw [al ⟨by omega,by omega⟩,hQ]
      simp only [go_sem]
      refine ⟨⟨(i+1,true),by omega,fun _=>rfl⟩,by show L.length-(i+1)<L.length-i;omega,tau [([98],[16,2])],?_⟩
      simp only [hnx]
      unfold prX
      simp only [go_sem]
      all_goals ((repeat' apply And.intro)<;>first | rfl | trivial)
     ·have hi':i=L.length:=by omega
      subst hi'
      rw [hQ]
      simp only [go_sem]
      rw [hen hacc.symm]
      refine ⟨_,_,[0,1,2],tau [([2],[98])],⟨rfl,rfl⟩,?_⟩
      simp only [go_sem]
 | true =>
   refine ao Tryz.func59 rfl (by decide +kernel) (by simp [Tryz.ntmps59]) (veil fun E=>?_)
   simp only [go_sem]
   refine aU E (X:={ x:Nat × Bool // x.1≤L.length∧(x.1≠0→x.2=true) }) (fun x=>[(0,.bx [0] 0),(6,.d (.sl none (L.map .str))),(7,.d (i64 (L.length:Nat))),(8,.d (i64 x.1.1))])
    (fun x=>prX (av x.1.2) xs (l++(L.take x.1.1).flatten)) [0,1,98] (fun x=>L.length-x.1.1) ⟨(0,true),Nat.zero_le _,fun h=>absurd rfl h⟩ (tau [([98],[1])]) ?_ ?_
   ·unfold prX
    simp only [go_sem]
    rw [List.flatten_nil,List.append_nil]
    all_goals ((repeat' apply And.intro)<;>first | rfl | trivial)
   rintro ⟨⟨i,b'⟩,hi,hb⟩ E0
   refine bk E0 fun Q' hQ E'=>?_
   simp only at hi hb ⊢
   have hs0:=hst i
   have hl0:=hle i
   have hen:=hend (l++(L.take i).flatten)
   generalize hacc:l++(L.take i).flatten=acc at hen
   have hal:acc.length+(L.getD i []).length≤900000000:=by
    rw [← hacc,List.length_append]
    by_cases hi':i<L.length
    ·have h2:=hle (i+1)
     rw [hs0 hi',List.length_append] at h2
     omega
    ·rw [List.getD_eq_getElem?_getD,List.getElem?_eq_none (by omega)]
     simp only [Option.getD_none,List.length_nil]
     omega
   have hc:=fun bb=>Cc (G:=G) bb xs acc (L.getD i []) (by omega)
   unfold prS prM at hc
   unfold prX
   cases b' with
   | false =>
     have hi0:i=0:=by
      by_cases h:i=0
      ·exact h
      ·exact absurd (hb h) (by decide)
     have hc:=hc false
     simp only [av] at hc
     simp only [go_sem]
     refine ai E' (fun g=>?_) (fun g=>?_)<;>simp only [go_sem]
     ·have hi':i<L.length:=by omega
      have hs1:=hs0 hi'
      refine ⟨by omega,?_⟩
      rw [hget i hi']
      simp only [go_sem]
      generalize L.getD i []=s at hs1 hc
      have hnx:l++(L.take (i+1)).flatten=acc++s:=by rw [hs1,← hacc,List.append_assoc]
      refine ah E' (tau [([1],[98])]) [.bx [0] 1,.d (.str s)] _ [0,1] hc rfl rfl ⟨by simp only [go_sem],by rw [aa];decide⟩ rfl (by simp only [go_sem]) (by simp only [go_sem]) ?_
      rintro _ _ ⟨rfl,rfl⟩
      simp only [go_sem]
      rw [al ⟨by omega,by omega⟩,hQ]
      simp only [go_sem]
      refine ⟨⟨(i+1,true),by omega,fun _=>rfl⟩,by show L.length-(i+1)<L.length-i;omega,tau [([98],[16,2])],?_⟩
      simp only [hnx]
      unfold prX
      simp only [go_sem]
      all_goals ((repeat' apply And.intro)<;>first | rfl | trivial)
     ·omega
   | true =>
     have hc:=hc true
     simp only [av] at hc
     simp only [go_sem]
     refine ai E' (fun g=>?_) (fun g=>?_)<;>simp only [go_sem]
     ·have hi':i<L.length:=by omega
      have hs1:=hs0 hi'
      refine ⟨by omega,?_⟩
      rw [hget i hi']
      simp only [go_sem]
      generalize L.getD i []=s at hs1 hc
      have hnx:l++(L.take (i+1)).flatten=acc++s:=by rw [hs1,← hacc,List.append_assoc]
      refine ah E' (tau [([1],[98])]) [.bx [0] 1,.d (.str s)] _ [0,1] hc rfl rfl ⟨by simp only [go_sem],by rw [aa];decide⟩ rfl (by simp only [go_sem]) (by simp only [go_sem]) ?_
      rintro _ _ ⟨rfl,rfl⟩
      simp only [go_sem]
      rw [al ⟨by omega,by omega⟩,hQ]
      simp only [go_sem]
      refine ⟨⟨(i+1,true),by omega,fun _=>rfl⟩,by show L.length-(i+1)<L.length-i;omega,tau [([98],[16,2])],?_⟩
      simp only [hnx]
      unfold prX
      simp only [go_sem]
      all_goals ((repeat' apply And.intro)<;>first | rfl | trivial)
     ·have hi':i=L.length:=by omega
      subst hi'
      rw [hQ]
      simp only [go_sem]
      rw [hen hacc.symm]
      refine ⟨_,_,[0,1,2],tau [([2],[98])],⟨rfl,rfl⟩,?_⟩
      simp only [go_sem]
end Go.Proofs.YtejpnabbmgpmaaaGreatDoor

namespace Go.Proofs.YtejpnabbmgpmaaaGreatDoor
open Go.Ab
def Kp:List TS:=[.sl (some 9) [.int .i64,.int .i64,.int .i64,.int .i64,.int .i64,.str,.str,.sl (some 3) [.str,.str,.int .i64],.int .i64]]
def RwN (x:D) (n:EN):Prop:=∃ F,x=.agg [i64 n.k,i64 n.a,i64 n.b,i64 n.c,i64 n.n,.str n.name,.str n.s,F,i64 n.pos]∧(F=.nils∧n.l=[]∨F=efD n.l)
def RwL:List D→List EN→Prop
 | [],[]=>True
 | x::xs,n::ns=>RwN x n∧RwL xs ns
 | _,_=>False
theorem RwL.len:∀ {xs:List D} {ns:List EN},RwL xs ns→xs.length=ns.length
 | [],[],_=>rfl
 | _::_,_::_,h=>by simp [RwL.len h.2]
 | [],_::_,h=>h.elim
 | _::_,[],h=>h.elim
theorem RwL.get:∀ {xs:List D} {ns:List EN},RwL xs ns→∀ (i:Nat) x n,xs[i]?=some x→ns[i]?=some n→RwN x n
 | [],_,_,i,x,n,h,_=>by simp at h
 | _::_,[],h,_,_,_,_,_=>h.elim
 | x::xs,n::ns,h,0,_,_,h1,h2=>by simp at h1 h2;subst h1;subst h2;exact h.1
 | x::xs,n::ns,h,i+1,y,m,h1,h2=>h.2.get i y m (by simpa using h1) (by simpa using h2)
theorem IW (n:EN):okW (some 9) (enD n):=⟨rfl,by simp [efD,D.scal]⟩
theorem Lk {xs:List D} {ns:List EN} (h:RwL xs ns):Wk (.agg [.sl (some 9) xs]) (exD ns):=by
 refine Wk.agg rfl (by simp [D.scal]) fun i a b ha hb=>?_
 match i,ha,hb with
 | 0,ha,hb =>
   cases ha;cases hb
   refine Wk.sl (by simp [h.len]) (fun b hb=>by obtain ⟨n,_,rfl⟩:=List.mem_map.1 hb;exact IW n) fun i a b ha hb=>?_
   rw [List.getElem?_map,Option.map_eq_some_iff] at hb
   obtain ⟨n,hn,rfl⟩:=hb
   obtain ⟨F,rfl,hF⟩:=h.get i a n ha hn
   refine ⟨rfl,fun j c d hc hd=>?_⟩
   match j,hc,hd with
   | 0,hc,hd | 1,hc,hd | 2,hc,hd | 3,hc,hd | 4,hc,hd | 5,hc,hd | 6,hc,hd | 8,hc,hd=>cases hc;cases hd;exact .refl _
   | 7,hc,hd =>
     cases hc;cases hd
     rcases hF with ⟨rfl,hF⟩ | rfl
     ·rw [hF];exact .nils _
     ·exact .refl _
theorem kY:maxLen≤9223372036854775807:=by unfold maxLen;omega
theorem Dg:∀ {xs:List D},(∀ x∈xs,okW (some 3) x∧oks [.str,.str,.int .i64] x.cells)→∃ l:List EF,xs=l.map fD∧∀ f∈l,f.nm.length≤maxLen∧f.var.length≤maxLen
 | [],_=>⟨[],rfl,by simp⟩
 | x::xs,h=>by
   obtain ⟨l,hl,hf⟩:=Dg fun y hy=>h y (List.mem_cons_of_mem _ hy)
   obtain ⟨h1,h2⟩:=h x List.mem_cons_self
   cases x with
   | agg cs =>
     have h2:oks [.str,.str,.int .i64] cs:=h2
     match cs,h2 with
     | [.str s,.str v,.int k n],h2 =>
       obtain ⟨g1,g2,g3,_⟩:=h2
       obtain rfl:k=.i64:=g3.1
       exact ⟨⟨s,v,n⟩::l,by rw [hl];rfl,fun f hf'=>by
        rcases List.mem_cons.1 hf' with rfl | hf'
        ·exact ⟨g1,g2⟩
        ·exact hf f hf'⟩
   | _=>simp [okW] at h1
def InN (n:EN):Prop:=n.name.length≤maxLen∧n.s.length≤maxLen∧n.l.length≤maxLen∧∀ f∈n.l,f.nm.length≤maxLen∧f.var.length≤maxLen
theorem Kk {x:D} (h1:okW (some 9) x) (h2:oks [.int .i64,.int .i64,.int .i64,.int .i64,.int .i64,.str,.str,.sl (some 3) [.str,.str,.int .i64],.int .i64] x.cells):∃ n,RwN x n∧InN n:=by
 cases x with
 | agg cs =>
   have h2:oks [.int .i64,.int .i64,.int .i64,.int .i64,.int .i64,.str,.str,.sl (some 3) [.str,.str,.int .i64],.int .i64] cs:=h2
   match cs,h2 with
   | [.int k1 a,.int k2 b,.int k3 c,.int k4 d,.int k5 e,.str s,.str t,F,.int k6 p],h2 =>
     obtain ⟨g1,g2,g3,g4,g5,g6,g7,g8,g9,_⟩:=h2
     obtain rfl:k1=.i64:=g1.1
     obtain rfl:k2=.i64:=g2.1
     obtain rfl:k3=.i64:=g3.1
     obtain rfl:k4=.i64:=g4.1
     obtain rfl:k5=.i64:=g5.1
     obtain rfl:k6=.i64:=g9.1
     cases F with
     | nils=>exact ⟨⟨a,b,c,d,e,s,t,[],p⟩,⟨.nils,rfl,.inl ⟨rfl,rfl⟩⟩,g6,g7,by simp,by simp⟩
     | sl w xs =>
       obtain ⟨rfl,g10,g11⟩:=g8
       obtain ⟨l,rfl,hl⟩:=Dg g11
       exact ⟨⟨a,b,c,d,e,s,t,l,p⟩,⟨_,rfl,.inr rfl⟩,g6,g7,by simpa using g10,hl⟩
     | _=>exact g8.elim
 | _=>simp [okW] at h1
theorem DQ:∀ {xs:List D},(∀ x∈xs,okW (some 9) x∧oks [.int .i64,.int .i64,.int .i64,.int .i64,.int .i64,.str,.str,.sl (some 3) [.str,.str,.int .i64],.int .i64] x.cells)→∃ ns,RwL xs ns∧∀ n∈ns,InN n
 | [],_=>⟨[],trivial,by simp⟩
 | x::xs,h=>by
   obtain ⟨ns,h1,h2⟩:=DQ fun y hy=>h y (List.mem_cons_of_mem _ hy)
   obtain ⟨g1,g2⟩:=h x List.mem_cons_self
   obtain ⟨n,k1,k2⟩:=Kk g1 g2
   exact ⟨n::ns,⟨k1,h1⟩,fun m hm=>by
    rcases List.mem_cons.1 hm with rfl | hm
    ·exact k2
    ·exact h2 m hm⟩
theorem Hx (ns:List EN):(wy ns).length≤700:=by
 unfold wy
 rw [List.length_map,List.length_take]
 omega
def InF (ns:List EN):Prop:=ns.length≤700∧∀ n∈ns,eY BIG n∧n.l.length≤60
theorem Jy {ns:List EN} (h:∀ n∈ns,InN n):InF (wy ns):=by
 refine ⟨Hx ns,fun n hn=>?_⟩
 unfold wy at hn
 obtain ⟨m,hm,rfl⟩:=List.mem_map.1 hn
 obtain ⟨h1,h2,h3,h4⟩:=h m (List.mem_of_mem_take hm)
 have hx:=kY
 have hl:(wA m).l.length≤60:=by unfold wA;simp only [List.length_take];omega
 exact ⟨⟨by show m.name.length≤9223372036854775807;omega,by show m.s.length≤9223372036854775807;omega,by omega,fun f hf=>by
  have:=h4 f (List.mem_of_mem_take hf)
  exact ⟨by show f.nm.length≤9223372036854775807;omega,by show f.var.length≤9223372036854775807;omega⟩⟩,hl⟩
end Go.Proofs.YtejpnabbmgpmaaaGreatDoor

