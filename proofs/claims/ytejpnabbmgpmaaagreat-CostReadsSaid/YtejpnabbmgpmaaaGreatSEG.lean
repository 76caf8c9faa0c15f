/-
  What the document's lexer passes over, byte by byte. (with the parts that follow it)
-/
import Derived.Test.YtejpnabbmgpmaaaGreatSEF
import Derived.Test.YtejpnabbmgpmaaaGreatSEE
import Derived.Test.YtejpnabbmgpmaaaGreatSEA
import Derived.Test.YtejpnabbmgpmaaaGreatSED
import Derived.Laws.IdiomStrings
import Derived.Lib.BufferRead
import Derived.DefersIn
import Derived.RangeFuncBound
set_option linter.all false
namespace Go.Proofs.YtejpnabbmgpmaaaGreat
open Go.Ab
theorem km:∀ (m m':Nat) (l:List UInt8),l.length<m→l.length<m'→eQ m l=eQ m' l
 | 0,_,_,h,_=>absurd h (Nat.not_lt_zero _)
 | _,0,_,_,h=>absurd h (Nat.not_lt_zero _)
 | m+1,m'+1,[],_,_=>rfl
 | m+1,m'+1,c::r,h,h'=>by
   simp only [List.length_cons] at h h'
   unfold eQ
   by_cases hb:c=32∨c=9∨c=10
   ·rw [if_pos hb,if_pos hb,km m m' r (by omega) (by omega)]
   rw [if_neg hb,if_neg hb]
   by_cases hr:c=35
   ·rw [if_pos hr,if_pos hr]
    cases hf:dz (c::r) with
    | none=>rfl
    | some k =>
      have hk:=nR (by rw [hr];decide) hf
      simp only
      rw [km m m' ((c::r).drop k) (by rw [List.length_drop,List.length_cons];omega) (by rw [List.length_drop,List.length_cons];omega)]
   ·rw [if_neg hr,if_neg hr]
theorem u4 {c:UInt8} {r:List UInt8} (hb:c=32∨c=9∨c=10):bc (c::r)=bc r+1:=by
 unfold bc
 rw [Nat.succ_eq_add_one,eQ,if_pos hb]
 rfl
theorem yw {c:UInt8} {r:List UInt8} (hb:¬ (c=32∨c=9∨c=10)) (hr:¬ c=35):bc (c::r)=0:=by
 unfold bc
 rw [Nat.succ_eq_add_one,eQ,if_neg hb,if_neg hr]
def nE (l:List UInt8):Nat:=match dz l with
 | none=>l.length
 | some k=>k+bc (l.drop k)
theorem CU {r:List UInt8}:bc (35::r)=nE (35::r):=by
 unfold nE
 have h:=eQ.eq_3 (35::r).length 35 r
 unfold bc
 rw [Nat.succ_eq_add_one,eQ,if_neg (by decide),if_pos rfl]
 cases hf:dz (35::r) with
 | none=>rfl
 | some k =>
   simp only
   have hk:=nR (by decide) hf
   rw [km (35::r).length ((35::r).drop k).length.succ ((35::r).drop k) (by rw [List.length_drop,List.length_cons];omega) (Nat.lt_succ_self _)]
theorem Fh:nE []=bc []:=rfl
theorem AR {r:List UInt8}:nE (10::r)=bc (10::r):=by
 unfold nE
 rw [show dz (10::r)=some 0 by unfold dz;rw [if_pos rfl]]
 simp
theorem Hw {c:UInt8} {r:List UInt8} (hc:¬ c=10):nE (c::r)=nE r+1:=by
 unfold nE
 rw [show dz (c::r)=(dz r).map (·+1) by conv=>lhs;unfold dz;rw [if_neg hc]]
 cases dz r with
 | none=>rfl
 | some k =>
   simp only [Option.map_some,List.drop_succ_cons]
   omega
theorem drop_cons {s:List UInt8} {i:Nat} (h:i<s.length):s.drop i=s.getD i 0::s.drop (i+1):=by
 rw [List.drop_eq_getElem_cons h]
 simp [h]
structure AI (s:List UInt8) (j i:Nat):Prop where
 hi:i≤s.length
 ti:TI s j (i+bc (s.drop i))
 ok:∀ q∈(aE s).take j,q.2.e=0
theorem AI.init (s:List UInt8):AI s 0 0:=⟨Nat.zero_le _,by rw [List.drop_zero,Nat.zero_add];exact TI.init s,fun q h=>by rw [List.take_zero] at h;cases h⟩
theorem AI.blank {s:List UInt8} {j i:Nat} (h:AI s j i) (hi:i<s.length) (hb:s.getD i 0=32∨s.getD i 0=9∨s.getD i 0=10):AI s j (i+1):=by
 refine ⟨by omega,?_,h.ok⟩
 have:=h.ti
 rw [drop_cons hi,u4 hb] at this
 rwa [show i+1+bc (s.drop (i+1))=i+(bc (s.drop (i+1))+1) by omega]
structure RI (s:List UInt8) (j i:Nat):Prop where
 hi:i≤s.length
 ti:TI s j (i+nE (s.drop i))
 ok:∀ q∈(aE s).take j,q.2.e=0
theorem AI.rem {s:List UInt8} {j i:Nat} (h:AI s j i) (hi:i<s.length) (hr:s.getD i 0=35):RI s j i:=by
 refine ⟨h.hi,?_,h.ok⟩
 have:=h.ti
 rw [drop_cons hi,hr,CU] at this
 rwa [drop_cons hi,hr]
theorem RI.on {s:List UInt8} {j i:Nat} (h:RI s j i) (hi:i<s.length) (hc:¬ s.getD i 0=10):RI s j (i+1):=by
 refine ⟨by omega,?_,h.ok⟩
 have:=h.ti
 rw [drop_cons hi,Hw hc] at this
 rwa [show i+1+nE (s.drop (i+1))=i+(nE (s.drop (i+1))+1) by omega]
theorem RI.out {s:List UInt8} {j i:Nat} (h:RI s j i) (hc:i<s.length→s.getD i 0=10):AI s j i:=by
 refine ⟨h.hi,?_,h.ok⟩
 have:=h.ti
 by_cases hi:i<s.length
 ·rw [drop_cons hi,hc hi,AR] at this
  rwa [drop_cons hi,hc hi]
 ·rw [List.drop_eq_nil_of_le (by omega),Fh] at this
  rwa [List.drop_eq_nil_of_le (by omega)]
theorem CX {l:List (Nat × Fnd)}:(∀ q∈l,q.2.e=0)→gD l=none:=by
 induction l with
 | nil=>intro _;rfl
 | cons a r ih =>
   intro h
   unfold gD
   rw [if_neg (by simp [h a List.mem_cons_self]),ih fun q hq=>h q (List.mem_cons_of_mem _ hq)]
theorem tZ {a:Nat × Fnd} (ha:a.2.e≠0):∀ {l:List (Nat × Fnd)},(∀ q∈l,q.2.e=0)→gD (l++[a])=some (a.1,a.2.e)
 | [],_=>by
   show gD [a]=_
   unfold gD
   rw [if_pos ha]
 | x::r,h=>by
   rw [List.cons_append,gD,if_neg (by simp [h x List.mem_cons_self])]
   exact tZ ha fun q hq=>h q (List.mem_cons_of_mem _ hq)
theorem AI.fin {s:List UInt8} {j i:Nat} (h:AI s j i) (hi:s.length≤i):bM s=(((aE s).take j).map fP,s.length,0):=by
 have hp:=h.ti
 rw [List.drop_eq_nil_of_le hi] at hp
 rcases hp.next with ⟨_,h2⟩ | ⟨h2,_⟩
 ·have hl:(aE s).length≤j:=List.drop_eq_nil_iff.1 h2
  have ho:=h.ok
  rw [List.take_of_length_le hl] at ho ⊢
  unfold bM
  rw [CX ho]
 ·have:=bc (([]:List UInt8))
  omega
theorem AI.tok {s:List UInt8} {j i:Nat} (h:AI s j i) (hi:i<s.length) (hb:¬ (s.getD i 0=32∨s.getD i 0=9∨s.getD i 0=10)) (hr:¬ s.getD i 0=35) :
  ((cn (s.drop i)).e≠0∧bM s=([],i,(cn (s.drop i)).e)) ∨
  ((cn (s.drop i)).e=0∧1≤(cn (s.drop i)).n∧(aE s).take (j+1)=(aE s).take j++[(i,cn (s.drop i))]∧j<(aE s).length∧AI s (j+1) (i+(cn (s.drop i)).n)):=by
 have ht:=h.ti
 rw [drop_cons hi,yw hb hr,Nat.add_zero] at ht
 obtain ⟨_,hget,hcase⟩:=ht.next.resolve_left (fun g=>by omega)
 obtain ⟨hj,hge⟩:=List.getElem?_eq_some_iff.1 hget
 have htk:(aE s).take (j+1)=(aE s).take j++[(i,cn (s.drop i))]:=by
  rw [List.take_succ_eq_append_getElem hj,hge]
 rcases hcase with ⟨he,hl⟩ | ⟨he,hn,hn1,hT⟩
 ·refine .inl ⟨he,?_⟩
  have ho:=h.ok
  have hall:aE s=(aE s).take j++[(i,cn (s.drop i))]:=by rw [← htk,List.take_of_length_le (by omega)]
  unfold bM
  rw [hall,tZ (a:=(i,cn (s.drop i))) he ho]
 ·refine .inr ⟨he,hn1,htk,hj,by omega,hT,fun q hq=>?_⟩
  rw [htk] at hq
  rcases List.mem_append.1 hq with hq | hq
  ·exact h.ok q hq
  ·rw [List.mem_singleton.1 hq];exact he
end Go.Proofs.YtejpnabbmgpmaaaGreat

namespace Go.Ab
theorem z7 (p:Name):∀ (a b:List (Name × Option Ob)),wl (a++b) p=match wl b p with | some v=>some v | none=>wl a p
 | [],b=>by cases h:wl b p<;>simp [wl,h]
 | q::r,b=>by
   rw [List.cons_append,wl,z7 p r b]
   cases wl b p<;>simp [wl]
theorem Ct (p:Name) (z:Option Ob):∀ l:List (Name × Option Ob),(wl l.reverse p).getD z=lkA z l p
 | []=>rfl
 | q::r=>by
   rw [List.reverse_cons,z7,dV]
   by_cases h:p=q.1
   ·simp [wl,h]
   ·simp only [wl,if_neg h]
    exact Ct p z r
def wrO (d:Nat) (chp hp':List (Name × Ob)):List (Name × Option Ob):=((hp'.map fun x:Name × Ob=>(fc id d chp x.1,some (x.2.ren (fc id d chp))))++chp.map fun x:Name × Ob=>(x.1,none)).reverse
theorem zq (d:Nat) (chp hp':List (Name × Ob)):(wrO d chp hp').map (fun x=>x.1)=((hp'.map fun x:Name × Ob=>fc id d chp x.1)++chp.map fun x:Name × Ob=>x.1).reverse:=by
 unfold wrO
 rw [List.map_reverse,List.map_append,List.map_map,List.map_map]
 rfl
attribute [go_sem] zq List.reverse_cons List.reverse_nil
theorem xp {α β:Type} [DecidableEq α] (z:β) (i:α):∀ a b:List (α × β),lkA z (a++b) i=lkA (lkA z b i) a i
 | [],_=>rfl
 | q::r,b=>by rw [List.cons_append,dV,dV,xp z i r b]
theorem zZ (s:St) (d:Nat) (chp hp':List (Name × Ob)) (r:AV):aft s id d chp hp' r=s.go (some d) (r.ren (fc id d chp)) ⟨wrO d chp hp',[d]⟩:=by
 refine Ck (funext fun q=>?_) rfl fun t=>rfl
 show lkA (lkA (s.hp q) (chp.map fun x=>(x.1,none)) q) _ q=(wl (wrO d chp hp') q).getD (s.hp q)
 unfold wrO
 rw [Ct,xp]
section
variable {P:Program} {cf:Cf} {ops:Array Oper} {K:St→Ns→Prop} {r:List Oper} {s:St} {ns:Ns}
theorem aZ (E:XEng P cf ops K) {d:Nat} {fv:Operand} {args:Array Operand} {at':Array TypeId} {ty:TypeId} {pos:String} {af:Array Edge} {g:Option (Nat × Bool)}
  {f:FuncId} {caps:List AV} (cargs:List AV) (chp:List (Name × Ob)) (cu:List Nat) (x:AV) (hp':List (Name × Ob)) (hc:HCall P cf.G f cargs chp cu (fun y h=>y=x∧h=hp'))
  (hev:ev s fv=.clo f caps) (hargs:args.toList.map (ev s)++caps=cargs) (hd:d<cf.n∧d ∉ s.used) (hcu:eU cu cargs=true) (hpass:fb id cu s chp) (hinj:mj id chp)
  (hl:iI chp hp') (hk:E.run r (aft s id d chp hp' x) (ns++[(chp.map (·.1),(wrO d chp hp').map (·.1),[d])])) :
  E.stp { dst:=some d,op:=.call { callee:=.value fv,args:=args,argTypes:=at' },type:=ty,pos:=pos,after:=af,guard:=g } r s ns .no:=by
 rw [E.stp_eq]
 refine ⟨x.ren (fc id d chp),(chp.map (·.1),⟨wrO d chp hp',[d]⟩),fun s' hu hh he B hB ds' β a w hds hs Q'=>?_,fun y hy=>?_,hd.1,?_⟩
 ·have hm:∀ y,y=fv∨y∈args→ev s' y=ev s y:=fun y hy=>he y (by
   simp only [Op.operands,Call.operands]
   rcases hy with rfl | hy<;>simp_all)
  have hpass':fb id cu s' chp:=by
   have:∀ l:List (Name × Ob),(∀ q∈l,q.1∈chp.map (·.1))→fb id cu s l→fb id cu s' l:=by
    intro l
    induction l with
    | nil=>intros;trivial
    | cons q r ih =>
      intro hq h
      refine ⟨⟨?_,h.1.2⟩,ih (fun x hx=>hq x (List.mem_cons_of_mem _ hx)) h.2⟩
      rw [show s'.hp (id q.1)=s.hp (id q.1) from hh _ (hq q List.mem_cons_self)]
      exact h.1.1
   exact this chp (fun q hq=>List.mem_map.2 ⟨q,hq,rfl⟩) hpass
  have hok:AOk P cf { dst:=some d,op:=.call { callee:=.value fv,args:=args,argTypes:=at' },type:=ty,pos:=pos,after:=af,guard:=g } s' [] (fun _ s2=>s2=aft s' id d chp hp' x):=by
   refine q7 d id cargs chp cu _ ((hm fv (.inl rfl)).trans hev) ?_ hcu (hu d (by simp)) (fun t ht=>?_) hpass' hinj hc fun y h hr=>?_
   ·rw [vN (s:=s) (s':=s') fun y hy=>hm y (.inr (by simpa using hy)),hargs,uJ]
   ·obtain rfl:=Option.some.inj ht
    exact ⟨hd.1,rfl⟩
   ·obtain ⟨rfl,rfl⟩:=hr
    exact ⟨hl,by rw [dW];rfl⟩
  refine Oper.wpIn_mono ?_ (hok B hB ds' β a w hds hs Q')
  rintro a' w' ⟨hd',s2,β',hrun,hs2⟩
  obtain ⟨_,s3,β3,rfl,hs3⟩:=hrun B hB ds' β' a' w' hd' hs2
  exact ⟨hd',β3,by rw [← zZ];exact hs3⟩
 ·obtain rfl:=List.mem_singleton.1 hy
  exact hd.2
 ·rw [← E.run_eq,← zZ]
  exact hk
theorem FH {H:Array Obj} {own:Nat→Prop} {v:Value} {wf:W} {l:List D} (h:Rep H own v (.sl wf l)):v.oneCell'=true:=by
 generalize hz:D.sl wf l=d at h
 cases h<;>first | rfl | cases hz
theorem uU {H:Array Obj} {own:Nat→Prop} {us:List Nat} {hp:Name→Option Ob} {β:Name→Option Blk} {v:Value} {wf:W} {l:List D} (h:VR H own us hp β v (.d (.sl wf l))):v.oneCell'=true:=by
 cases h with
 | d _ _ h=>exact FH h
theorem bw (E:XEng P cf ops K) {t:Nat} (u:Nat) (p:Name) (wf:W) (xs:List D) {off len:Nat} {fv:Operand} {args:Array Operand} {at':Array TypeId} {ty:TypeId} {pos:String} {af:Array Edge} {gg:Option (Nat × Bool)}
  {f:FuncId} {caps:List AV} {ds:List D} {x:AV} (hc:HP P cf.G f ds (fun r=>r=x)) (hfv:∀ s,ev s fv=.clo f caps) (hp:s.hp p=some (.arr wf xs)) (hev:s.fr u=.vw p off len) (hu:(t == u)=false) (hin:Operand.tmp u∈args)
  (hargs:args.toList.map (ev (s.put u (.d (.sl wf ((xs.drop off).take len)))))++caps=ds.map .d) (hdst:t<cf.n) (hk:E.run r ((s.set p none).put t x) (ns++[([p],[p],[])])) :
  E.stp { dst:=some t,op:=.call { callee:=.value fv,args:=args,argTypes:=at' },type:=ty,pos:=pos,after:=af,guard:=gg } r s ns .no:=by
 have htu:¬ t=u:=by simpa using hu
 have hgo:∀ s:St,(s.set p none).put t x=s.go (some t) x ⟨[(p,none)],[]⟩:=fun s=>by unfold St.go;rw [qZ];rfl
 rw [E.stp_eq]
 refine ⟨x,([p],⟨[(p,none)],[]⟩),fun s' _ hh he=>?_,fun y hy=>(by cases hy),hdst,?_⟩
 ·have hm:∀ y,y∈args→ev s' y=ev s y:=fun y hy=>he y (by
   simp only [Op.operands,Call.operands]
   simp_all)
  have hp':s'.hp p=some (.arr wf xs):=(hh p (by simp)).trans hp
  have hev':s'.fr u=.vw p off len:=(hm (.tmp u) hin).trans hev
  obtain ⟨y,hy⟩:∃ y,y=AV.d (.sl wf ((xs.drop off).take len)):=⟨_,rfl⟩
  rw [← hy] at hargs
  have hargs':args.toList.map (ev ((s'.set p none).put u y))++caps=ds.map .d:=by
   rw [← hargs]
   congr 1
   refine List.map_congr_left fun z hz=>?_
   have h0:=hm z (by simpa using hz)
   cases z with
   | tmp i =>
     by_cases e:i=u
     ·subst e
      show ((s'.set p none).put i _).fr i=(s.put i _).fr i
      simp [St.put,dJ]
     ·have h0':s'.fr i=s.fr i:=h0
      show ((s'.set p none).put u _).fr i=(s.put u _).fr i
      simp [St.put,St.set,dJ,e,h0']
   | _=>rfl
  have h1:=kA (k:=[]) (Q:=fun _ s2=>s2=((s'.set p none).put u y).put t x) (dst:=some t) (fv:=fv) (args:=args) (at':=at') (ty:=ty) (pos:=pos) (af:=af) (g:=gg) hc
   (hfv _) hargs' (fun y hy=>by rw [Option.mem_def,Option.some.injEq] at hy;rw [← hy];exact hdst) (fun r hr=>by subst hr;rw [dW];rfl)
  intro B hB ds' β a w hds hs Q'
  have hs0:=hs.drop p
  have hs1:Sim B β ((s'.set p none).put u y) a.tmps w:=hs0.setv (by
   have:=(hs.frz hp').slots u
   rw [show (s'.frz p wf xs).fr u=(s'.fr u).frz p wf xs from rfl,hev',AV.frz,if_pos rfl,← hy] at this
   exact this)
  refine Oper.wpIn_mono ?_ (h1 B hB ds' β a w hds hs1 Q')
  rintro a' w' ⟨hd',s2,β',hrun,hs2⟩
  obtain ⟨_,s3,β3,rfl,hs3⟩:=hrun B hB ds' β' a' w' hd' hs2
  refine ⟨hd',β3,?_⟩
  rw [← hgo]
  have hv:=hs3.slots u
  have e1:(((s'.set p none).put u y).put t x).fr u=y:=by simp [St.put,dJ,Ne.symm htu,fun h:u=t=>htu h.symm]
  rw [e1,hy] at hv
  have hnm:=(hs.objs p _ hp').1
  have e2:((s'.set p none).put t x)=(((s'.set p none).put u y).put t x).put u (.vw p off len):=by
   refine ku (fun _=>rfl) rfl fun i=>?_
   simp only [St.put,St.set,dJ]
   by_cases h1:i=u
   ·subst h1
    have h3:¬ i=t:=fun h=>htu h.symm
    simp [h3,hev']
   ·simp [h1]
  have h5:=hs3.setv (t:=u) (x:=.vw p off len) (.vw _ _ _ _ hnm (by
   exact uU hv) (fun ty w xs h=>by
    have h:aD s'.hp p none p=some _:=h
    simp [aD] at h))
  rw [e2]
  exact h5
 ·rw [← E.run_eq,← hgo]
  exact hk
end
end Go.Ab

namespace Go.Ab
section
variable {P:Program} {cf:Cf} {ops:Array Oper} {K:St→Ns→Prop} {r:List Oper} {s:St} {ns:Ns}
theorem CG (E:XEng P cf ops K) {d t e n:Nat} {x y:Operand} {ty:TypeId} {pos:String} {af:Array Edge} {z:D} (ht:(P.ti t).k=.slice e) (hz:(P.ti e).zero=some z) (hw:((P.ti e).isW (P.ti e).w && nM (P.ti e).w z)=true)
  (hx:ev s x=.d (.int .i64 n)) (hy:ev s y=.d (.int .i64 n)) (hb:(n:Int)*(P.ti e).by'≤140737488355328∧(n:Int)≤140737488355328) (hd:d<cf.n∧d ∉ s.used)
  (hk:E.run r ((s.add d (.arr (P.ti e).w (List.replicate n z))).put d (.vw [d] 0 n)) (ns++[([],[[d]],[d])])) :
  E.stp { dst:=some d,op:=.makeSlice t x y,type:=ty,pos:=pos,after:=af,guard:=none } r s ns .no:=by
 have hgo:∀ s':St,(s'.add d (.arr (P.ti e).w (List.replicate n z))).put d (.vw [d] 0 n)=s'.go (some d) (.vw [d] 0 n) ⟨[([d],some (.arr (P.ti e).w (List.replicate n z)))],[d]⟩:=fun s'=>by unfold St.go;rw [nk];rfl
 rw [E.stp_eq]
 refine ⟨.vw [d] 0 n,([],⟨[([d],some (.arr (P.ti e).w (List.replicate n z)))],[d]⟩),fun s' hu hh he B hB ds' β a w hds hs Q'=>?_,fun q hq=>?_,hd.1,?_⟩
 ·have h1:ev s' x=.d (.int .i64 n):=(he x (by simp [Op.operands])).trans hx
  have h2:ev s' y=.d (.int .i64 n):=(he y (by simp [Op.operands])).trans hy
  have hok:AOk P cf { dst:=some d,op:=.makeSlice t x y,type:=ty,pos:=pos,after:=af,guard:=none } s' [] (fun _ s2=>s2=(s'.add d (.arr (P.ti e).w (List.replicate n z))).put d (.vw [d] 0 n)):=by
   refine dF (o:={ dst:=some d,op:=.makeSlice t x y,type:=ty,pos:=pos,after:=af,guard:=none }) rfl ?_
   have h3:opR P.ti cf.n (.makeSlice t x y) (some d) s'=.need (0≤(n:Int)∧(n:Int)≤n∧(n:Int)*(P.ti e).by'≤140737488355328∧(n:Int)≤140737488355328) (.ok ((s'.add d (.arr (P.ti e).w (List.replicate n z))).put d (.vw [d] 0 n))):=by
    unfold opR fN gz
    simp only [h1,h2,ht,hz,hw]
    have hdu:d<cf.n∧d ∉ s'.used:=⟨hd.1,hu d (by simp)⟩
    simp [hdu.1,hdu.2]
   show stp P cf (opR P.ti cf.n (.makeSlice t x y) (some d) s') _ s' [] _
   rw [h3,n7,rf,dW]
   exact ⟨⟨by omega,Int.le_refl _,hb⟩,rfl⟩
  refine Oper.wpIn_mono ?_ (hok B hB ds' β a w hds hs Q')
  rintro a' w' ⟨hd',s2,β',hrun,hs2⟩
  obtain ⟨_,s3,β3,rfl,hs3⟩:=hrun B hB ds' β' a' w' hd' hs2
  exact ⟨hd',β3,by rw [← hgo];exact hs3⟩
 ·obtain rfl:=List.mem_singleton.1 hq
  exact hd.2
 ·rw [← E.run_eq,← hgo]
  exact hk
end
end Go.Ab

namespace Go.Ab
section
variable {P:Program} {cf:Cf} {Q:Exit→St→Prop} {s:St} {k:List It}
theorem uw (n cap:Nat) (h:n≤cap) (w:World):(Instr.sliceBounds true n cap none (some (.int .i64 n)) (some (.int .i64 n))).run P w=.ok (0,n,n) w:=by
 have hb:∀ code,(Instr.sliceBound (.int .i64 (n:Int)) cap code).run P w=.ok n w:=fun code=>by
  have:=jQ (P:=P) .i64 (n:Int) cap code (by omega) (by omega) w
  simpa using this
 have hc:∀ code,(Instr.sliceBound (.int .i64 (n:Int)) n code).run P w=.ok n w:=fun code=>by
  have:=jQ (P:=P) .i64 (n:Int) n code (by omega) (by omega) w
  simpa using this
 simp [Instr.sliceBounds,hb,hc]
theorem Ie (E:Eng P cf Q) {d t e:Nat} {x h m:Operand} {ty:TypeId} {pos:String} {af:Array Edge} {wf:W} {xs:List D} (hk:(P.ti t).k=.slice e) (hw:(P.ti e).isW wf=true) (hd:d<cf.n)
  (hx:ev s x=.d (.sl wf xs)) (hh:ev s h=.d (.int .i64 xs.length)) (hm:ev s m=.d (.int .i64 xs.length)) (hr:E.run k (s.put d (.d (.slx wf xs)))) :
  E.stp { dst:=some d,op:=.slice t x none (some h) (some m),type:=ty,pos:=pos,after:=af,guard:=none } s k .no:=by
 refine js E rfl hd (fun c hc=>by cases hc) (fun B β a w hs=>?_) hr
 have hvx:=hs.ev x
 have hvh:=hs.ev h
 have hvm:=hs.ev m
 rw [hx] at hvx
 rw [hh] at hvh
 rw [hm] at hvm
 obtain ⟨hg,hwd,_⟩:=cy hw
 have hu:=bW hk
 have hrep:=hvx.toD
 obtain ⟨a0,cap,hxv,hcap,hdd⟩:=hrep.rk
 have hb:=uw (P:=P) xs.length cap hcap w
 have e1:(Instr.sliceAt t (a.eval x) none (some (a.eval h)) (some (a.eval m))).run P w=.ok (.slice a0 xs.length xs.length) w:=by
  rw [hxv,hvh.int,hvm.int]
  have e2:Option.map (fun x:Addr=>x.add 0) a0=a0:=by
   cases a0 with
   | none=>rfl
   | some q=>cases q;simp [Addr.add]
  simp only [Instr.sliceAt,Instr.slice,Sem.run_bind,run_underlying hu,Result.andThen_ok,hb,run_sizeOf hg,Sem.run_pure,Nat.sub_zero]
  simp only [Nat.zero_mul,e2,ite_self]
 refine ⟨.slice a0 xs.length xs.length,by simp [execOp,e1],.d _ _ (.slx _ _ _ ?_ ⟨a0,rfl⟩)⟩
 by_cases h0:xs=[]
 ·subst h0
  exact .sl0 _ _ _
 ·obtain ⟨b',o,c,e',fz,rfl,hb',hn,hz,hok,hc⟩:=hdd h0
  exact .sl b' o xs.length c e' fz wf xs hb' hn (Nat.le_refl _) hz hok hc
theorem G2 (E:Eng P cf Q) {d t e:Nat} {x y:Operand} {ty:TypeId} {pos:String} {af:Array Edge} {xs ys:List D} (hk:(P.ti t).k=.slice e) (hz:(P.ti e).zOk=true) (hw:(P.ti e).isW (P.ti e).w=true)
  (hd:d<cf.n∧d ∉ s.used) (hx:ev s x=.d (.slx (P.ti e).w xs)) (hy:cB (P.ti e).w s.hp (ev s y)=some ys) (h0:0<ys.length) (hl:(xs.length+ys.length)*(P.ti e).by1≤140737488355328)
  (h:E.run k ((s.add d (.arr (P.ti e).w (xs++ys))).put d (.vw [d] 0 (xs.length+ys.length)))) :
  E.stp { dst:=some d,op:=.call { callee:=.builtin .append,args:=#[x,y],argTypes:=#[t,t] },type:=ty,pos:=pos,after:=af,guard:=none } s k .no:=by
 rw [aM]
 rw [E.run_eq] at h
 intro B hB ds β a w hds hs Q'
 have hvx:=hs.ev x
 have hvy:=hs.ev y
 rw [hx] at hvx
 obtain ⟨hg,hwd,_⟩:=cy hw
 obtain ⟨z,hz,hzl⟩:∃ z,(P.ti e).z=some z∧z.length=(P.ti e).sz:=by
  unfold TI.zOk at hz
  split at hz
  ·rename_i z h1;exact ⟨z,h1,by simpa using hz⟩
  ·cases hz
 obtain ⟨zv,hr,hm,it,hi,hiz,his,hib⟩:=fX hz
 have hu:=bW hk
 have hby:(xs.length+ys.length)*it.bytes≤140737488355328∧xs.length+ys.length≤140737488355328:=by
  unfold TI.by1 at hl
  rw [hib]
  split at hl
  ·rename_i h0;rw [h0];simp at hl ⊢;exact hl
  ·exact ⟨hl,Nat.le_trans (Nat.le_mul_of_pos_right _ (by omega)) hl⟩
 have hrep:=hvx.toD
 obtain ⟨hsl,a0,hxv⟩:Rep w.heap (s.own B.A β) (a.eval x) (.sl (P.ti e).w xs)∧∃ a0,a.eval x=.slice a0 xs.length xs.length:=by
  generalize a.eval x=v at hrep
  cases hrep with
  | slx _ _ _ h1 h2=>exact ⟨h1,h2⟩
 obtain ⟨olds,hsx⟩:=dX (P:=P) hs (y:=.d (.sl (P.ti e).w xs)) (.d _ _ hsl) (wf:=(P.ti e).w) (ys:=xs) (by simp [cB])
 obtain ⟨news,hsy⟩:=dX (P:=P) hs hvy hy
 obtain ⟨nc,hnc,hrun⟩:=eu (P:=P) (t:=t) hu hi hiz ty (by rw [his,hwd]) hsx hsy hxv (by omega) hby.1 hby.2
 obtain ⟨r1,r2⟩:=mJ hsx hsy (Builtin.zeroCells zv.cells (nc-(xs.length+ys.length)))
 have hzs:zv.cells.size=wd (P.ti e).w:=by
  have:=(ix (H:=w.heap) (own:=s.own B.A β) hm).1
  simp at this;omega
 have hsz:(olds.toArray++news.toArray++Builtin.zeroCells zv.cells (nc-(xs.length+ys.length))).size=nc*wd (P.ti e).w:=by
  simp only [Array.size_append,List.size_toArray,hsx.size,hsy.size,size_zeroCells,hzs,← Nat.add_mul];congr 1;omega
 have hdn:d<B.n:=by rw [hB.1];exact hd.1
 have hnew:=fh (hs.mX (w':=w.drew) rfl rfl) hdn hd.2 (c:=olds.toArray++news.toArray++Builtin.zeroCells zv.cells (nc-(xs.length+ys.length))) (wf:=(P.ti e).w) (xs:=xs++ys) (cap:=nc) (by simpa using hnc)
  (by rw [hsz];exact Nat.le_refl _) r1 (fun i x j d hi hj=>r2 i x j d hi hj) e none rfl
 obtain ⟨β',hsim⟩:=hnew
 rw [List.length_append] at hsim
 exact aK (v:=.slice (some ⟨w.heap.size,0,none⟩) (xs.length+ys.length) nc) (by simp) (by simp [execOp,resolve,invoke,builtin,hrun]) (.inl rfl) ⟨hds,_,β',aW h,hsim⟩
end
end Go.Ab

namespace Go.Ab
section
variable {P:Program} {cf:Cf} {k:List It} {s:St} {Φ:Exit→Act→World→Prop} {I:Base→List Deferred→Prop}
theorem nD {B:Base} {β:Name→Option Blk} {tm:Array Value} {w:World} {all:Array Oper} {j gt:Nat} {gb:Bool} (hs:Sim B β s tm w) (hj:(all[j]?).bind (·.dst)=some gt) (hgt:s.fr gt=.d (.bool gb)):yielded all tm j=some gb:=by
 have hv:=hs.slots gt
 rw [hgt] at hv
 have hb:=hv.bool
 have hlt:gt<tm.size:=by
  rcases Nat.lt_or_ge gt tm.size with hlt | hge
  ·exact hlt
  ·simp [Array.getD_eq_getD_getElem?,Array.getElem?_eq_none hge] at hb;cases hb
 simp [Array.getD_eq_getD_getElem?,hlt] at hb
 simp [yielded,hj,Array.getElem?_eq_getElem hlt,hb]
theorem FY {all:Array Oper} {o:Oper} {r:List Oper} {j gt:Nat} {gb:Bool} (hg:o.guard=some (j,gb)) (hj:(all[j]?).bind (·.dst)=some gt) (hgt:s.fr gt=.d (.bool gb)) (h:(opR P.ti cf.n o.op o.dst s).run (fun s'=>ARY P cf Φ I (.ops all r::k) s') False):ARY P cf Φ I (.ops all (o::r)::k) s:=by
 intro B hB ds β a w hds hI hs l hl
 cases l with
 | nil=>simp at hl
 | cons i l =>
   simp only [List.map_cons,List.cons.injEq] at hl
   obtain ⟨hi,hl⟩:=hl
   have hw:Region.wanted o (yielded all a.tmps)=true:=by simp [Region.wanted,hg,nD hs hj hgt]
   simp only [wpOpsIn,hi,hw,if_true]
   rw [← hB.1] at h
   rcases fu hs h with hz | ⟨nx,v,w',s',β',hrun,hnx,hf,hs'⟩
   ·exact hz.elim
   ·have hnd:∀ c,o.op≠.defer c:=by
     intro c hc
     have:∃ d w2,(execOp a.eval o).run P w=.ok (.defer d) w2∨∃ h w2,(execOp a.eval o).run P w=.halt h w2:=by
      simp only [execOp,hc,Sem.run_bind]
      cases (resolve a.eval c o.type).run P w with
      | ok d w2=>exact ⟨d,w2,.inl rfl⟩
      | halt hh w2=>exact ⟨default,w2,.inr ⟨hh,w2,rfl⟩⟩
     obtain ⟨d,w2,h1 | ⟨hh,w3,h1⟩⟩:=this
     ·rw [hrun] at h1;cases h1;rcases hnx with h2 | ⟨h2,_⟩<;>cases h2
     ·rw [hrun] at h1;cases h1
    refine aK hnd hrun hnx (hf B hB ds β' _ w' ?_ hI hs' l hl)
    cases o.dst<;>exact hds
end
section
variable {P:Program} {cf:Cf} {N:Nat} {xs:Nat→List D} {z:Itz} {k:List It} {s:St}
theorem Al (hz:z.Ok P cf.G N xs) {Φ:Exit→Act→World→Prop} {n t:Nat} {all:Array Oper} {fv:Operand} {args:Array Operand} {at':Array TypeId} {ty:TypeId} {pos:String} {af:Array Edge} {r:List Oper} {j gt:Nat} {gb:Bool} (hj:(all[j]?).bind (·.dst)=some gt) (hgt:s.fr gt=.d (.bool gb))
  (hn:n<N) (ht:t<cf.n) (hev:ev s fv=.d (.yl z.l)) (hargs:args.toList.map (ev s)=(xs n).map .d)
  (h1:ARY P cf Φ (II z (n+1)) (.ops all r::k) (s.put t (.d (.bool true)))) (h2:ARY P cf Φ (IX z) (.ops all r::k) (s.put t (.d (.bool false)))) :
  ARY P cf Φ (II z n) (.ops all ({ dst:=some t,op:=.call { callee:=.value fv,args:=args,argTypes:=at' },type:=ty,pos:=pos,after:=af,guard:=some (j,gb) }::r)::k) s:=by
 intro B hB ds β a w hds hI hs l hl
 cases l with
 | nil=>simp at hl
 | cons i l =>
   simp only [List.map_cons,List.cons.injEq] at hl
   obtain ⟨hi,hl⟩:=hl
   have hw:(yielded all a.tmps j == some gb)=true:=by rw [nD hs hj hgt];simp
   simp only [wpOpsIn,hi,Region.wanted,hw,if_true]
   obtain ⟨C,X,W0,hW0,hJ,hst,hA,hX,hzw⟩:=IJ.stp hI hs
   have hJ':=hz.stab _ _ _ _ _ _ hJ hst
   have hf:=hs.ev fv
   rw [hev] at hf
   have hfv:a.eval fv=.func (.yield z.l) #[] #[]:=by
    have:=hf.toD
    generalize a.eval fv=v at this
    cases this;rfl
   have hlen:args.size=(xs n).length:=by simpa using congrArg List.length hargs
   have hrd:=hz.round n C (bx s β) w (args.map a.eval) hn hJ' (by simpa using hlen) (fun j d hj=>by
    have hx:(args.toList.map (ev s))[j]?=some (.d d):=by rw [hargs,List.getElem?_map,hj];rfl
    have:=(dI hs args.toList j _ hx).toD
    rw [show (args.map a.eval).getD j undef=(args.toList.map a.eval).toArray.getD j undef by simp [Array.getD_eq_getD_getElem?]]
    refine this.mono (fun _ _ _=>rfl) (fun b _ hb=>?_)
    rcases hb with hb | hb
    ·exact .inl ((hA b).2 hb)
    ·exact .inr hb)
   obtain ⟨fn,tmps,assign,body,hy,hrd⟩:=hrd
   refine ⟨fun _ _=>trivial,?_⟩
   have hrun:(execOp a.eval { dst:=some t,op:=.call { callee:=.value fv,args:=args,argTypes:=at' },type:=ty,pos:=pos,after:=af,guard:=some (j,gb) }:Sem Next).run P w=.ok (.round z.l fn tmps assign body) w:=by
    have e:(execOp a.eval { dst:=some t,op:=.call { callee:=.value fv,args:=args,argTypes:=at' },type:=ty,pos:=pos,after:=af,guard:=some (j,gb) }:Sem Next)=Instr.yield z.l (#[]++args.map a.eval++#[]):=by
     show (do let d ← (Deferred.ofValue (a.eval fv) (args.map a.eval));invoke d.target d.args:Sem Next)=_
     rw [hfv];rfl
    rw [e]
    simpa using hy
   rw [Oper.semAt_eq _ _ _ (by simp),hrun,Oper.uponIn_round]
   refine ⟨fun hdep=>by simp [eP] at hdep,?_⟩
   have hrd':RoundIn (Fw cf.ro) (0-1) P z.l fn tmps assign body w _:=hrd
   refine hrd'.mono ?_
   rintro e W' ⟨C',⟨c1,c2,c3,c4,c5⟩,hq⟩
   have hG':∀ q∈B.G,W'.heap[q.1]?=some q.2∧¬ bx s β q.1:=fun q hq=>by
    obtain ⟨g1,g2⟩:=B.hG q hq
    have hlt:=ar g1
    refine ⟨(c4 q (by rw [← hB.2.2];exact hq)).trans ((hs.frame _ hlt g2).trans g1),fun hb=>?_⟩
    rcases (hs.bQ hb).2.2 with g3 | g3
    ·omega
    ·exact g2 g3
   let B':Base:={ n:=B.n,io:=B.io,G:=B.G,H0:=W'.heap,O0:=bx s β,A:=C',U0:=B.U0,β0:=B.β0,hA:=fun b hb=>(c5 b hb).2,hG:=hG' }
   have hs':Sim B' β s a.tmps W':=by
    refine hs.mv rfl (c1.trans hs.io) (Nat.le_refl _) (fun _ _ _=>rfl) c2 (fun b hb hn=>c3 b hb (fun hc=>hn ((hA b).2 hc))) (fun b hb hc=>?_) (fun p k hp hk=>.inr ⟨p,k,hp,hk,rfl⟩) hs.us hs.stay
    rcases (c5 b hc).1 with h | h
    ·exact (hA b).2 h
    ·omega
   have hIJ:∀ J:(Nat→Prop)→(Nat→Prop)→World→Prop,J C' (bx s β) W'→IJ z J B' ds:=fun J hj=>⟨hI.1,C',_,W',rfl,c1.trans hs.io,hj,fun _=>Iff.rfl,fun _=>Iff.rfl,hX,Nat.le_trans hzw c2⟩
   rcases hq with ⟨rfl,hj⟩ | ⟨rfl,hj⟩
   ·exact h1 B' ⟨hB.1,hB.2.1,hB.2.2⟩ ds β (a.put (some t) (.bool true)) W' hds (hIJ _ hj) (hs'.put (by show t<B.n;rw [hB.1];exact ht) (.d _ _ (.bool _))) l hl
   ·exact h2 B' ⟨hB.1,hB.2.1,hB.2.2⟩ ds β (a.put (some t) (.bool false)) W' hds (hIJ _ ⟨_,hj⟩) (hs'.put (by show t<B.n;rw [hB.1];exact ht) (.d _ _ (.bool _))) l hl
end
end Go.Ab

namespace Go.Ab
section
variable {P:Program} {cf:Cf} {Q:Exit→St→Prop} {s:St} {k:List It}
theorem GH (E:Eng P cf Q) {d:Nat} {x:Operand} {ty:TypeId} {pos:String} {af:Array Edge} {v:D} (hd:d<cf.n) (hx:ev s x=.d (.ptr v)) (h:E.run k (s.put d (.d (.ptr v)))) :
  E.stp { dst:=some d,op:=.nilCheck x,type:=ty,pos:=pos,after:=af,guard:=none } s k .no:=by
 refine js E (x:=.d (.ptr v)) rfl hd (by simp) (fun B β a w hs=>⟨a.eval x,?_,hx ▸ hs.ev x⟩) h
 have hv:=hs.ev x
 rw [hx] at hv
 have hr:=hv.toD
 have he:∀ y,a.eval x=y→(∃ ad,y=.pointer (some ad))→(execOp a.eval { dst:=some d,op:=.nilCheck x,type:=ty,pos:=pos,after:=af,guard:=none }).run P w=.ok (.value y) w:=by
  rintro y hy ⟨ad,rfl⟩
  simp [execOp,hy]
 refine he _ rfl ?_
 generalize a.eval x=y at hr
 cases hr
 exact ⟨_,rfl⟩
end
end Go.Ab

namespace Go.Ab
inductive Fz where
 | A (p:Name) (w:W) (xs:List D)
 | B (p:Name) (d:D)
def Fz.nm:Fz→Name
 | .A p _ _=>p
 | .B p _=>p
def St.fz (s:St):Fz→St
 | .A p w xs=>s.fT p w xs
 | .B p d=>s.frB p d
def Fz.ok (s:St):Fz→Prop
 | .A p w xs=>s.hp p=some (.arr w xs)
 | .B p d=>s.hp p=some (.box (d.cells.map .d))∧(d.cells.all D.scal)=true
def St.fzL (s:St):List Fz→St
 | []=>s
 | q::L=>(s.fz q).fzL L
def oQ (s:St):List Fz→Prop
 | []=>True
 | q::L=>q.ok s∧oQ (s.fz q) L
theorem E8 (s:St):s.fzL []=s:=rfl
theorem Is (s:St) (p:Name) (w:W) (xs:List D) (L:List Fz):s.fzL (.A p w xs::L)=(s.fT p w xs).fzL L:=rfl
theorem Ii (s:St) (p:Name) (d:D) (L:List Fz):s.fzL (.B p d::L)=(s.frB p d).fzL L:=rfl
theorem BQ (s:St):oQ s []=True:=rfl
theorem vO (s:St) (p:Name) (w:W) (xs:List D) (L:List Fz):oQ s (.A p w xs::L)=(s.hp p=some (.arr w xs)∧oQ (s.fT p w xs) L):=rfl
theorem vM (s:St) (p:Name) (d:D) (L:List Fz):oQ s (.B p d::L)=((s.hp p=some (.box (d.cells.map .d))∧(d.cells.all D.scal)=true)∧oQ (s.frB p d) L):=rfl
theorem qC {B:Base} {β:Name→Option Blk} {tm:Array Value} {w:World}:∀ (L:List Fz) (s:St),Sim B β s tm w→oQ s L→Sim B β (s.fzL L) tm w
 | [],_,h,_=>h
 | .A p wf xs::L,s,h,hl=>by
   rw [vO] at hl
   exact qC L _ (h.fT hl.1) hl.2
 | .B p d::L,s,h,hl=>by
   rw [vM] at hl
   exact qC L _ (h.frB hl.1.1 fun x hx=>by simpa using List.all_eq_true.1 hl.1.2 x hx) hl.2
def St.noO (s:St):St:={ s with hp:=fun _=>none }
theorem B8 (s:St) (x:Operand):ev s.noO x=ev s x:=by cases x<;>rfl
theorem Sim.noO {B:Base} {β:Name→Option Blk} {s:St} {tm:Array Value} {w:World} (h:Sim B β s tm w):Sim B β s.noO tm w:=by
 have hr:∀ v d,Rep w.heap (s.own B.A β) v d→Rep w.heap (s.noO.own B.A β) v d:=fun v d hd=>hd.mono (fun _ _ _=>rfl) (by
  rintro b _ (hA | ⟨q,k,hq,_⟩)
  ·exact .inl hA
  ·exact absurd rfl hq)
 exact { tms:=h.tms,io:=h.io,size:=h.size,frame:=h.frame,slots:=fun i=>VR.mono hr (fun _ h=>h) (fun q _ o' ho'=>(by cases ho')) (h.slots i),objs:=fun q o' ho'=>(by cases ho'),blocks:=fun q k hq _=>absurd rfl hq,inj:=fun q q' k k' hq _=>absurd rfl hq,us:=h.us,stay:=h.stay }
section
variable {P:Program} {cf:Cf} {Q:Exit→St→Prop} {s:St} {k:List It}
theorem C7 {dst:Option Nat} {fv:Operand} {args:Array Operand} {at':Array TypeId} {ty:TypeId} {pos:String} {af:Array Edge} {g:Option (Nat × Bool)}
  (L:List Fz) (hL:oQ s L) {f:FuncId} {caps:List AV} {ds:List D} {Q0:AV→Prop} (hc:HP P cf.G f ds Q0) (hflat:∀ r,Q0 r→r.flat=true)
  (hev:ev (s.fzL L) fv=.clo f caps) (hargs:args.toList.map (ev (s.fzL L))++caps=ds.map .d) (hdst:∀ t∈dst,t<cf.n) (hk:∀ r,Q0 r→run P cf k Q (s.iK dst r)) :
  AOk P cf { dst:=dst,op:=.call { callee:=.value fv,args:=args,argTypes:=at' },type:=ty,pos:=pos,after:=af,guard:=g } s k Q:=by
 intro B hB ds' β a w hds h Q'
 obtain ⟨d,hd⟩:=lS s.used
 refine ⟨fun _ _=>trivial,?_⟩
 have h':=(qC L s h hL).noO
 rw [← B8] at hev
 rw [show args.toList.map (ev (s.fzL L))=args.toList.map (ev (s.fzL L).noO) from List.map_congr_left fun y _=>(B8 _ y).symm] at hargs
 obtain ⟨s',hs'⟩:∃ s',s'=(s.fzL L).noO:=⟨_,rfl⟩
 have hno:∀ p,s'.hp p=none:=fun p=>by rw [hs'];rfl
 rw [← hs'] at h' hev hargs
 have hf:=h'.ev fv
 rw [hev] at hf
 generalize hfv:a.eval fv=fval at hf
 cases hf with
 | clo _ cvs _ hcs hcv =>
 have hrun:∀ vs,vs=(args.toList.map a.eval).toArray++cvs→(execOp a.eval { dst:=dst,op:=.call { callee:=.value fv,args:=args,argTypes:=at' },type:=ty,pos:=pos,after:=af,guard:=g }).run P w=.ok (.enter f vs) w:=by
  intro vs hvs
  have e:(execOp a.eval { dst:=dst,op:=.call { callee:=.value fv,args:=args,argTypes:=at' },type:=ty,pos:=pos,after:=af,guard:=g }:Sem Next)=callFunc f (#[]++args.map a.eval++cvs):=by
   show (do let d ← (Deferred.ofValue (a.eval fv) (args.map a.eval));invoke d.target d.args:Sem Next)=_
   rw [hfv];rfl
  rw [e,← hc.1 vs w,hvs]
  congr 2
  apply Array.ext'
  simp
 rw [Oper.semAt_eq _ _ _ (by simp),hrun _ rfl,Oper.uponIn_enter]
 refine ⟨fun hdep=>by simp [eP] at hdep,?_⟩
 have hlen:(ds.map AV.d).length=args.size+caps.length:=by
  have:=congrArg List.length hargs
  simpa using this.symm
 have hvs:((args.toList.map a.eval).toArray++cvs).size=(ds.map AV.d).length:=by simp [hcs] at hlen ⊢;omega
 have hv:∀ (i:Nat) x,(ds.map AV.d)[i]?=some x→VR w.heap (s'.own B.A β) s'.used s'.hp β (((args.toList.map a.eval).toArray++cvs).getD i undef) (x.ren id):=by
  intro i x hi
  rw [AV.ek id (fun _=>rfl)]
  have hx:=hi
  rw [← hargs] at hx
  by_cases hlt:i<args.size
  ·have hx':(args.toList.map (ev s'))[i]?=some x:=by rw [← hx,List.getElem?_append_left (by simpa using hlt)]
   have:=dI h' args.toList i _ hx'
   rw [show ((args.toList.map a.eval).toArray++cvs).getD i undef=(args.toList.map a.eval).toArray.getD i undef by simp [Array.getD_eq_getD_getElem?,Array.getElem?_append,hlt]]
   exact this
  ·have hx':caps[i-args.size]?=some x:=by rw [← hx,List.getElem?_append_right (by simpa using Nat.le_of_not_lt hlt)];simp
   have:=hcv _ _ hx'
   rw [show ((args.toList.map a.eval).toArray++cvs).getD i undef=cvs.getD (i-args.size) undef by simp [Array.getD_eq_getD_getElem?,Array.getElem?_append,hlt]]
   exact this
 have hcall:=lN (P:=P) h h' (fun p o ho=>by rw [hno p] at ho;cases ho) (Q0:=fun r hp'=>Q0 r∧r.inU []=true∧hp'=[]) (σ:=id) (d:=d) hd (chp:=[]) (cu:=[]) trivial trivial (qQ _ _) hvs hv (by rw [hB.2.2];exact hc) (fun r hp' hq=>⟨hflat r hq.1,by rw [hq.2.2];rfl⟩)
 have hcall':CallsIn (Fw cf.ro) (0-1) P f ((args.toList.map a.eval).toArray++cvs) w _:=hcall
 refine hcall'.mono ?_
 rintro e w' ⟨v,rfl,r,hp',⟨hQ,hru,rfl⟩,hl⟩
 obtain ⟨β2,hs2,hv2⟩:=hl trivial
 rw [AV.kO _ r hru] at hv2
 have hru':=AV.ll s.used r hru
 refine ⟨by cases dst<;>exact hds,s.iK dst r,?_⟩
 cases dst with
 | none =>
   obtain ⟨β3,h3⟩:=h.unuse hs2 rfl (t0:=0) (x0:=s.fr 0) (fun _=>.inr rfl) rfl (h.slots 0).inU
   exact ⟨β3,aW (hk r hQ),h3⟩
 | some t =>
   have h2:=hs2.put (t:=t) (by rw [hB.1];exact hdst t rfl) hv2
   obtain ⟨β3,h3⟩:=h.unuse h2 rfl (t0:=t) (x0:=r) (fun u=>by
    by_cases e:u=t
    ·exact .inl e
    ·exact .inr (by show dJ _ _ _ _=_;simp [dJ,e])) (by show dJ _ _ _ _=_;simp [dJ]) hru'
   exact ⟨β3,aW (hk r hQ),h3⟩
theorem wN (E:Eng P cf Q) {dst:Option Nat} {fv:Operand} {args:Array Operand} {at':Array TypeId} {ty:TypeId} {pos:String} {af:Array Edge}
  (L:List Fz) {f:FuncId} {caps:List AV} {ds:List D} {Q0:AV→Prop} (hc:HP P cf.G f ds Q0) (hflat:∀ r,Q0 r→r.flat=true) (hL:oQ s L)
  (hev:ev (s.fzL L) fv=.clo f caps) (hargs:args.toList.map (ev (s.fzL L))++caps=ds.map .d) (hdst:∀ t∈dst,t<cf.n) (hk:∀ r,Q0 r→E.run k (s.iK dst r)) :
  E.stp { dst:=dst,op:=.call { callee:=.value fv,args:=args,argTypes:=at' },type:=ty,pos:=pos,after:=af,guard:=none } s k .no:=by
 rw [aM]
 exact C7 L hL hc hflat hev hargs hdst fun r hr=>by rw [← E.run_eq];exact hk r hr
section
variable {ops:Array Oper} {K:St→Ns→Prop} {r:List Oper} {ns:Ns}
structure Alike (ns:List Name) (ts:List Nat) (s s':St):Prop where
 hp:∀ p∈ns,s'.hp p=s.hp p
 fr:∀ t∈ts,s'.fr t=s.fr t
theorem Alike.fz {ns:List Name} {ts:List Nat} {s s':St} (h:Alike ns ts s s') (q:Fz):Alike ns ts (s.fz q) (s'.fz q):=by
 cases q with
 | A p w xs =>
   refine ⟨fun x hx=>?_,fun t ht=>?_⟩
   ·show (aD s'.hp p none x).map _=(aD s.hp p none x).map _
    unfold aD
    split
    ·rfl
    ·rw [h.hp x hx]
   ·show (s'.fr t).frz p w xs=(s.fr t).frz p w xs
    rw [h.fr t ht]
 | B p d =>
   refine ⟨fun x hx=>?_,fun t ht=>?_⟩
   ·show (aD s'.hp p none x).map _=(aD s.hp p none x).map _
    unfold aD
    split
    ·rfl
    ·rw [h.hp x hx]
   ·show (s'.fr t).frB p d=(s.fr t).frB p d
    rw [h.fr t ht]
theorem Alike.ok {ns:List Name} {ts:List Nat}:∀ {L:List Fz} {s s':St},Alike ns ts s s'→(∀ q∈L,q.nm∈ns)→oQ s L→oQ s' L
 | [],_,_,_,_,_=>trivial
 | .A p w xs::L,s,s',h,hn,hl=>by
   rw [vO] at hl ⊢
   exact ⟨(h.hp p (hn (.A p w xs) List.mem_cons_self)).trans hl.1,Alike.ok (h.fz (.A p w xs)) (fun q hq=>hn q (List.mem_cons_of_mem _ hq)) hl.2⟩
 | .B p d::L,s,s',h,hn,hl=>by
   rw [vM] at hl ⊢
   exact ⟨⟨(h.hp p (hn (.B p d) List.mem_cons_self)).trans hl.1.1,hl.1.2⟩,Alike.ok (h.fz (.B p d)) (fun q hq=>hn q (List.mem_cons_of_mem _ hq)) hl.2⟩
theorem Alike.fzL {ns:List Name} {ts:List Nat}:∀ (L:List Fz) {s s':St},Alike ns ts s s'→Alike ns ts (s.fzL L) (s'.fzL L)
 | [],_,_,h=>h
 | q::L,_,_,h=>Alike.fzL L (h.fz q)
end
end
attribute [go_sem] E8 Is Ii BQ vO vM Fz.nm
end Go.Ab
namespace Go.Ab
variable {P:Program} {cf:Cf} {Φ:Exit→Act→World→Prop} {I:Base→List Deferred→Prop} {k:List It} {s:St}
def cutq (P:Program) (cf:Cf) (Φ:Exit→Act→World→Prop) (I:Base→List Deferred→Prop) (k:List It) {X:Type} (S:X→St) (e:Exit) (s:St):Prop :=
 match e with
 | .normal=>∃ x τ,Le cf.U τ s (S x)
 | e=>yq P cf Φ I k e s
theorem Ah {X:Type} (S:X→St):cutq P cf Φ I k S .ret s=ARX cf Φ I .ret s:=rfl
theorem HZ {X:Type} (S:X→St) {c:Code} (h1:∀ E:Eng P cf (cutq P cf Φ I k S),E.run [.code c] s) (h2:∀ x,ARY P cf Φ I k (S x)):ARY P cf Φ I (.code c::k) s :=
 fun B hB ds β a w hds hI hs=>wpIn_mono (aW (veil h1) B hB ds β a w hds hs) fun e a' w' hq=>by
  obtain ⟨hd,s',β',hq,hs'⟩:=hq
  cases e with
  | normal =>
    obtain ⟨x,τ,hle⟩:=hq
    obtain ⟨β2,hs2,_⟩:=hs'.le (τ:=τ) (by rw [hB.2.1];exact hle)
    exact fS (s:=S x) (e:=.normal) hB hI hd (h2 x) hs2
  | ret=>exact fS (e:=.ret) hB hI hd hq hs'
  | exit i=>exact fS (e:=.exit i) hB hI hd hq hs'
  | goto l=>exact hq.elim
  | panic c=>exact hq.elim
  | outgrown=>exact hq.elim
theorem lW (fr:List (Nat × AV)) (hp:List (Name × Ob)) (u:List Nat) {c:Code} (h1:∀ E:Eng P cf (cutq P cf Φ I k fun _:Unit=>mk fr hp u),E.run [.code c] s) (h2:ARY P cf Φ I k (mk fr hp u)):ARY P cf Φ I (.code c::k) s:=HZ _ h1 fun _=>h2
theorem cC {fr:List (Nat × AV)} {hp:List (Name × Ob)} {u:List Nat} (τ:Name→Name) (h:LeL cf.U τ s fr hp u):cutq P cf Φ I k (fun _:Unit=>mk fr hp u) .normal s:=⟨(),τ,h.le⟩
attribute [go_sem] Ah
end Go.Ab

namespace Go.Ab
section
variable {P:Program} {cf:Cf} {ops:Array Oper} {K:St→Ns→Prop} {r:List Oper} {s:St} {ns:Ns}
theorem IS (E:XEng P cf ops K) {d t:Nat} {x:Operand} {ty:TypeId} {pos:String} {af:Array Edge} {cs:List AV} (hx:cN (ev s x)=some cs) (hd:d<cf.n∧d ∉ s.used)
  (hk:E.run r ((s.add d (.box cs)).put d (.bx [d] 0)) (ns++[([],[[d]],[d])])) :
  E.stp { dst:=some d,op:=.box t x,type:=ty,pos:=pos,after:=af,guard:=none } r s ns .no:=by
 have hgo:∀ s':St,(s'.add d (.box cs)).put d (.bx [d] 0)=s'.go (some d) (.bx [d] 0) ⟨[([d],some (.box cs))],[d]⟩:=fun s'=>by unfold St.go;rw [nk];rfl
 rw [E.stp_eq]
 refine ⟨.bx [d] 0,([],⟨[([d],some (.box cs))],[d]⟩),fun s' hu hh he B hB ds' β a w hds hs Q'=>?_,fun q hq=>?_,hd.1,?_⟩
 ·have h1:cN (ev s' x)=some cs:=by rw [he x (by simp [Op.operands])];exact hx
  have hok:AOk P cf { dst:=some d,op:=.box t x,type:=ty,pos:=pos,after:=af,guard:=none } s' [] (fun _ s2=>s2=(s'.add d (.box cs)).put d (.bx [d] 0)):=by
   refine dF (o:={ dst:=some d,op:=.box t x,type:=ty,pos:=pos,after:=af,guard:=none }) rfl ?_
   have h3:opR P.ti cf.n (.box t x) (some d) s'=.ok ((s'.add d (.box cs)).put d (.bx [d] 0)):=by
    unfold opR gz
    simp only [h1]
    have hdu:d<cf.n∧d ∉ s'.used:=⟨hd.1,hu d (by simp)⟩
    simp [hdu.1,hdu.2]
   show stp P cf (opR P.ti cf.n (.box t x) (some d) s') _ s' [] _
   rw [h3,rf,dW]
  refine Oper.wpIn_mono ?_ (hok B hB ds' β a w hds hs Q')
  rintro a' w' ⟨hd',s2,β',hrun,hs2⟩
  obtain ⟨_,s3,β3,rfl,hs3⟩:=hrun B hB ds' β' a' w' hd' hs2
  exact ⟨hd',β3,by rw [← hgo];exact hs3⟩
 ·obtain rfl:=List.mem_singleton.1 hq
  exact hd.2
 ·rw [← E.run_eq,← hgo]
  exact hk
end
end Go.Ab

namespace Go.Ab
section
variable {P:Program} {cf:Cf} {ops:Array Oper} {K:St→Ns→Prop} {r:List Oper} {s:St} {ns:Ns}
end
end Go.Ab

namespace Go.Ab
section
variable {P:Program} {cf:Cf} {ops:Array Oper} {K:St→Ns→Prop} {r:List Oper} {s:St} {ns:Ns}
end
end Go.Ab

namespace Go.Ab
section
variable {P:Program} {cf:Cf} {Q:Exit→St→Prop} {s:St} {k:List It}
theorem H5 (E:Eng P cf Q) {d src dst e:Nat} {x:Operand} {ty:TypeId} {pos:String} {af:Array Edge} (p:Name) (l:List UInt8) (hd:d<cf.n) (hsr:P.underlying src=some (.slice e)) (he:P.underlying e=some (.int .u8)) (hds:P.underlying dst=some .string)
  (hx:ev s x=.vw p 0 l.length) (hp:s.hp p=some (.arr none (l.map byD))) (h:E.run k (s.put d (.d (.str l)))) :
  E.stp { dst:=some d,op:=.convert src dst x,type:=ty,pos:=pos,after:=af,guard:=none } s k .no:=by
 refine js E rfl hd (by simp) (fun B β a w hs=>⟨.string ⟨l.toArray⟩,?_,.d _ _ (.str l)⟩) h
 have hv:=hs.ev x
 rw [hx] at hv
 generalize hax:a.eval x=vx at hv
 cases hv with
 | vw _ _ _ _ hn h1 hx' =>
 obtain ⟨_,a0,cap,rfl,hcase⟩:=hx' _ _ _ hp
 have key:(convert src dst (.slice a0 l.length cap)).run P w=.ok (.string ⟨l.toArray⟩) w:=by
  rcases hcase with ⟨h0,rfl⟩ | ⟨k0,hk,rfl,hcap,hz⟩
  ·have hl:l=[]:=List.length_eq_zero_iff.1 h0
   subst hl
   cases a0 with
   | none=>exact Lib.run_convert_nil_bytes (P:=P) w src dst e 0 hsr he hds
   | some ad=>exact run_convert_bytes_back w src dst e ad 0 [] hsr he hds (fun j hj=>absurd hj (Nat.not_lt_zero _))
  ·refine run_convert_bytes_back w src dst e _ cap l hsr he hds fun j hj=>?_
   rcases (hs.objs p _ hp).2 with ⟨h0,h0'⟩ | ⟨k1,c,e',hk1,hh,hz',hl,hok,hrep⟩
   ·have h0':l=[]:=List.map_eq_nil_iff.1 h0'
    rw [h0'] at hj
    exact absurd hj (Nat.not_lt_zero _)
   rw [hk] at hk1
   cases hk1
   simp only [wd,Nat.mul_one,List.length_map] at hl
   have h2:=hrep j (byD l[j]) 0 (byD l[j]) (by simp [hj]) rfl
   have h3:k0.o+j<c.size:=by omega
   rw [show k0.o+j*wd none+0=k0.o+j by simp [wd]] at h2
   simp only [Array.getD_eq_getD_getElem?,Array.getElem?_eq_getElem h3,Option.getD_some] at h2
   have h4:c[k0.o+j]=.int .u8 l[j].toNat:=by
    generalize c[k0.o+j]=v at h2
    cases h2;rfl
   rw [bN]
   simp [World.cell?,hh,wd,h3,h4]
 simp [execOp,hax,key]
end
end Go.Ab

namespace Go.Proofs.YtejpnabbmgpmaaaGreat
open Go.Ab
structure EF where
 nm:List UInt8
 var:List UInt8
 to:Int
structure EN where
 k:Int
 a:Int
 b:Int
 c:Int
 n:Int
 name:List UInt8
 s:List UInt8
 l:List EF
 pos:Int
def aF (k:Int):Nat:=if k=5∨k=12∨k=13 then 1 else if k=6∨k=7∨k=8∨k=10 then 2 else if k=9 then 3 else if k=14 then 1 else 0
def aH (k:Int):Bool:=decide (k=11) || decide (k=14)
theorem bB (k:Int):aF k≤3:=by unfold aF;(repeat' split)<;>omega
def aj (n:EN):List Int:=[n.a,n.b,n.c].take (aF n.k)++(if aH n.k then n.l.map (·.to) else [])
def bf (n:EN):Nat:=aF n.k+(if aH n.k then n.l.length else 0)
theorem br (n:EN):(aj n).length=bf n:=by
 have:=bB n.k
 unfold aj bf
 split<;>simp<;>omega
def aX (ks:List Int) (o:Nat):List EF→Nat→List EF
 | [],_=>[]
 | f::r,i=>(if o+i<ks.length then { f with to:=ks.getD (o+i) 0 } else f)::aX ks o r (i+1)
def bk (n:EN) (ks:List Int):EN :=
 { n with a:=if 0<aF n.k then ks.getD 0 0 else 0,b:=if 1<aF n.k then ks.getD 1 0 else 0,c:=if 2<aF n.k then ks.getD 2 0 else 0,l:=if aH n.k then aX ks (aF n.k) n.l 0 else [] }
theorem dm (ks:List Int) (o:Nat):∀ (l:List EF) (i:Nat),(aX ks o l i).length=l.length
 | [],_=>rfl
 | _::r,i=>by simp [aX,dm ks o r (i+1)]
theorem ua (ks:List Int) (o:Nat):∀ (l:List EF) (i:Nat),o+i+l.length=ks.length→(aX ks o l i).map (·.to)=ks.drop (o+i)
 | [],i,h=>by
   have h:o+i=ks.length:=by simpa using h
   simp [aX,h]
 | f::r,i,h=>by
   simp only [List.length_cons] at h
   have hi:o+i<ks.length:=by omega
   rw [aX,if_pos hi,List.map_cons,ua ks o r (i+1) (by omega),List.drop_eq_getElem_cons hi]
   simp [hi,Nat.add_assoc]
theorem n5 (ks ks':List Int) (o:Nat):∀ (l:List EF) (i:Nat),o+i+l.length≤ks'.length→aX ks' o (aX ks o l i) i=aX ks' o l i
 | [],_,_=>rfl
 | f::r,i,h=>by
   simp only [List.length_cons] at h
   have hi:o+i<ks'.length:=by omega
   rw [aX,aX,aX,if_pos hi,if_pos hi,n5 ks ks' o r (i+1) (by omega)]
   split<;>rfl
theorem m9 (n:EN) (ks:List Int):(bk n ks).k=n.k:=rfl
theorem Ig:∀ (m:Nat) (ks:List Int),m≤3→m≤ks.length→[if 0<m then ks.getD 0 0 else 0,if 1<m then ks.getD 1 0 else 0,if 2<m then ks.getD 2 0 else 0].take m=ks.take m
 | 0,_,_,_=>by simp
 | 1,x::_,_,_=>by simp
 | 2,x::y::_,_,_=>by simp
 | 3,x::y::z::_,_,_=>by simp
 | 1,[],_,h=>by simp at h
 | 2,[],_,h=>by simp at h
 | 2,[_],_,h=>by simp at h
 | 3,[],_,h=>by simp at h
 | 3,[_],_,h=>by simp at h
 | 3,[_,_],_,h=>by simp at h
theorem jO {n:EN} {ks:List Int} (h:ks.length=bf n):aj (bk n ks)=ks:=by
 have h3:=bB n.k
 unfold bf at h
 unfold aj
 rw [m9]
 show [if 0<aF n.k then ks.getD 0 0 else 0,if 1<aF n.k then ks.getD 1 0 else 0,if 2<aF n.k then ks.getD 2 0 else 0].take (aF n.k)++(if aH n.k then (if aH n.k then aX ks (aF n.k) n.l 0 else []).map (·.to) else [])=ks
 rw [Ig _ _ h3 (by omega)]
 split
 ·rename_i hp
  rw [if_pos hp] at h
  rw [ua _ _ _ _ (by omega)]
  exact List.take_append_drop _ _
 ·rename_i hp
  rw [if_neg hp] at h
  rw [List.append_nil,List.take_of_length_le (by omega)]
theorem qi {n:EN} {ks ks':List Int} (h:bf n≤ks'.length):bk (bk n ks) ks'=bk n ks':=by
 unfold bf at h
 show ({ n with a:=_,b:=_,c:=_,l:=if aH n.k then aX ks' (aF n.k) (if aH n.k then aX ks (aF n.k) n.l 0 else []) 0 else [] }:EN)={ n with a:=_,b:=_,c:=_,l:=if aH n.k then aX ks' (aF n.k) n.l 0 else [] }
 by_cases hp:aH n.k=true
 ·rw [if_pos hp] at h
  simp only [hp,if_true]
  rw [n5 _ _ _ _ _ (by omega)]
  rfl
 ·simp only [hp]
  rfl
def aU (off:Nat) (n:EN):EN:=bk n ((aj n).map fun x:Int=>x+off)
theorem kb (off:Nat) (n:EN):aj (aU off n)=(aj n).map fun x:Int=>x+off:=jO (by rw [List.length_map,br])
theorem mF (p q:Nat) (n:EN):aU p (aU q n)=aU (p+q) n:=by
 unfold aU
 have:=kb q n
 unfold aU at this
 rw [this,qi (by rw [List.length_map,List.length_map,br];exact Nat.le_refl _),List.map_map]
 congr 1
 refine List.map_congr_left fun x _=>?_
 simp only [Function.comp]
 omega
def cH:List (List EN)→List EN→List Int→List EN × List Int
 | [],acc,rs=>(acc,rs)
 | l::r,acc,rs=>cH r (acc++l.map (aU acc.length)) (rs++[((acc.length+l.length:Nat):Int)-1])
def au (n:EN) (ls:List (List EN)):List EN:=(cH ls [] []).1++[bk n (cH ls [] []).2]
inductive Tr:List EN→Prop
 | join (n:EN) (ls:List (List EN)) (hw:bf n=ls.length) (h:∀ l∈ls,Tr l):Tr (au n ls)
def ndE (ns:List EN) (i:Nat):EN:=ns.getD i ⟨0,0,0,0,0,[],[],[],0⟩
def bz (ns:List EN):Nat→Int→List Int
 | 0,_=>[]
 | m+1,i=>(aj (ndE ns i.toNat)).flatMap (bz ns m)++[i]
end Go.Proofs.YtejpnabbmgpmaaaGreat

namespace Go.Proofs.YtejpnabbmgpmaaaGreat
open Go.Ab
theorem kF:∀ (ls:List (List EN)) (acc:List EN) (rs:List Int),∃ X Y,cH ls acc rs=(acc++X,rs++Y)∧Y.length=ls.length
 | [],acc,rs=>⟨[],[],by simp [cH],rfl⟩
 | l::r,acc,rs=>by
   obtain ⟨X,Y,e,h⟩:=kF r (acc++l.map (aU acc.length)) (rs++[((acc.length+l.length:Nat):Int)-1])
   exact ⟨l.map (aU acc.length)++X,(((acc.length+l.length:Nat):Int)-1)::Y,by rw [cH,e];simp,by simp [h]⟩
def Lies (M ns:List EN) (off:Nat):Prop:=∀ j,j<ns.length→ndE M (off+j)=aU off (ndE ns j)
def FQ (l:List EN):Prop:=0<l.length∧∀ (M:List EN) (off m:Nat),Lies M l off→off+l.length≤m→bz M m (((off+l.length:Nat):Int)-1)=(List.range l.length).map fun j=>((off+j:Nat):Int)
theorem wK:∀ (ls:List (List EN)) (acc:List EN) (rs Y:List Int) (X:List EN),(∀ l∈ls,FQ l)→cH ls acc rs=(acc++X,rs++Y)→∀ (M:List EN) (off m:Nat),Lies M (acc++X) off→off+(acc++X).length≤m →
  (Y.map fun x:Int=>x+off).flatMap (bz M m)=(List.range X.length).map fun j=>((off+acc.length+j:Nat):Int)
 | [],acc,rs,Y,X,_,e,M,off,m,_,_=>by
   simp only [cH,Prod.mk.injEq] at e
   have h1:X=[]:=by have:=congrArg List.length e.1;simp at this;exact this
   have h2:Y=[]:=by have:=congrArg List.length e.2;simp at this;exact this
   subst h1;subst h2;simp
 | l::r,acc,rs,Y,X,hg,e,M,off,m,hM,hm=>by
   obtain ⟨X',Y',e',_⟩:=kF r (acc++l.map (aU acc.length)) (rs++[((acc.length+l.length:Nat):Int)-1])
   rw [cH,e'] at e
   simp only [Prod.mk.injEq,List.append_assoc,List.append_cancel_left_eq] at e
   obtain ⟨rfl,rfl⟩:=e
   obtain ⟨h0,hl⟩:=hg l List.mem_cons_self
   have hlen:(acc++(l.map (aU acc.length)++X')).length=acc.length+l.length+X'.length:=by simp [Nat.add_assoc]
   have ih:=wK r (acc++l.map (aU acc.length)) (rs++[((acc.length+l.length:Nat):Int)-1]) Y' X' (fun x hx=>hg x (List.mem_cons_of_mem _ hx)) e' M off m (by rw [List.append_assoc];exact hM) (by rw [List.append_assoc];exact hm)
   have h1:bz M m ((((acc.length+l.length:Nat):Int)-1)+off)=(List.range l.length).map fun j=>((off+acc.length+j:Nat):Int):=by
    have:=hl M (off+acc.length) m (fun j hj=>?_) (by omega)
    ·rw [← this]
     congr 1
     omega
    ·have hj2:=hM (acc.length+j) (by rw [hlen];omega)
     rw [← Nat.add_assoc] at hj2
     rw [hj2]
     have:ndE (acc++(l.map (aU acc.length)++X')) (acc.length+j)=aU acc.length (ndE l j):=by
      unfold ndE
      rw [List.getD_eq_getElem?_getD,List.getElem?_append_right (by omega),List.getElem?_append_left (by simp;omega)]
      simp [hj]
     rw [this,mF]
   simp only [List.map_append,List.map_cons,List.map_nil,List.flatMap_append,List.flatMap_cons,List.flatMap_nil,List.append_nil,List.singleton_append]
   rw [h1,ih]
   simp only [List.length_append,List.length_map]
   rw [List.range_add,List.map_append,List.map_map]
   congr 1
   refine List.map_congr_left fun j _=>?_
   simp only [Function.comp]
   omega
theorem Tr.good {ns:List EN} (h:Tr ns):FQ ns:=by
 induction h with
 | join n ls hw _ ih =>
   obtain ⟨X,Y,e,hY⟩:=kF ls [] []
   have hj:au n ls=X++[bk n Y]:=by unfold au;rw [e];simp
   rw [hj]
   refine ⟨by simp,fun M off m hM hm=>?_⟩
   rw [List.length_append] at hm ⊢
   simp only [List.length_singleton] at hm ⊢
   have hroot:ndE M (off+X.length)=aU off (bk n Y):=by
    have:=hM X.length (by simp)
    rw [this]
    congr 1
    simp [ndE]
   cases m with
   | zero=>omega
   | succ m =>
     have hi:(((off+(X.length+1):Nat):Int)-1).toNat=off+X.length:=by omega
     rw [bz,hi,hroot,kb,jO (by rw [hY,hw])]
     have:=wK ls [] [] Y X (fun l hl=>ih l hl) (by simpa using e) M off m (fun j hj=>?_) (by simp;omega)
     ·rw [this,List.range_succ,List.map_append]
      simp only [List.length_nil,Nat.add_zero,List.map_cons,List.map_nil]
      congr 2
      omega
     ·simp only [List.nil_append] at hj ⊢
      rw [hM j (by simp;omega)]
      congr 1
      simp [ndE,List.getElem?_append_left hj]
theorem u9 {n:EN} {ks:List Int} (h:ks.length=bf n):aU 0 (bk n ks)=bk n ks:=by
 unfold aU
 rw [jO h,qi (by rw [List.length_map,h];exact Nat.le_refl _)]
 congr 1
 simp
theorem tY:∀ (ls:List (List EN)) (acc:List EN) (rs:List Int),(∀ x∈acc,aU 0 x=x)→∀ x∈(cH ls acc rs).1,aU 0 x=x
 | [],_,_,h=>h
 | l::r,acc,rs,h=>by
   refine tY r _ _ fun x hx=>?_
   rcases List.mem_append.1 hx with hx | hx
   ·exact h x hx
   ·obtain ⟨y,_,rfl⟩:=List.mem_map.1 hx
    rw [mF,Nat.zero_add]
theorem Tr.self {ns:List EN} (h:Tr ns):∀ x∈ns,aU 0 x=x:=by
 cases h with
 | join n ls hw h =>
   intro x hx
   obtain ⟨X,Y,e,hY⟩:=kF ls [] []
   rcases List.mem_append.1 (show x∈(cH ls [] []).1++[bk n (cH ls [] []).2] from hx) with hx | hx
   ·exact tY ls [] [] (by simp) x hx
   ·rw [List.mem_singleton.1 hx,e]
    exact u9 (by simpa using hY.trans hw.symm)
def GC (ns:List EN) (i:Int):List EN :=
 let its:=bz ns (i.toNat+1) i
 its.map fun x=>bk (ndE ns x.toNat) ((aj (ndE ns x.toNat)).map fun k=>(its.idxOf k:Int))
theorem uN (N:Nat):((List.range N).map fun j=>((0+j:Nat):Int)).Nodup:=List.Pairwise.map _ (fun a b hab e=>hab (by omega)) List.nodup_range
theorem uB (N k:Nat) (h:k<N):((List.range N).map fun j=>((0+j:Nat):Int)).idxOf (k:Int)=k:=by
 have:=List.Nodup.idxOf_getElem (uN N) k (by simpa using h)
 simpa using this
def eC (b:Nat) (x:EN):Prop:=∀ k∈aj x,0≤k∧k<(b:Int)
theorem eC.mono {b c:Nat} {x:EN} (h:eC b x) (hc:b≤c):eC c x:=fun k hk=>by have:=h k hk;omega
theorem uu:∀ (ls:List (List EN)) (acc:List EN) (rs:List Int),(∀ l∈ls,0<l.length∧∀ x∈l,eC l.length x)→(∀ x∈acc,eC acc.length x)→(∀ k∈rs,0≤k∧k<(acc.length:Int)) →
  (∀ x∈(cH ls acc rs).1,eC (cH ls acc rs).1.length x)∧∀ k∈(cH ls acc rs).2,0≤k∧k<((cH ls acc rs).1.length:Int)
 | [],_,_,_,h1,h2=>⟨h1,h2⟩
 | l::r,acc,rs,hl,h1,h2=>by
   obtain ⟨g1,g2⟩:=hl l List.mem_cons_self
   refine uu r _ _ (fun x hx=>hl x (List.mem_cons_of_mem _ hx)) (fun x hx=>?_) (fun k hk=>?_)
   ·rcases List.mem_append.1 hx with hx | hx
    ·exact (h1 x hx).mono (by simp)
    ·obtain ⟨y,hy,rfl⟩:=List.mem_map.1 hx
     intro k hk
     rw [kb] at hk
     obtain ⟨q,hq,rfl⟩:=List.mem_map.1 hk
     have:=g2 y hy q hq
     rw [List.length_append,List.length_map]
     omega
   ·rw [List.length_append,List.length_map]
    rcases List.mem_append.1 hk with hk | hk
    ·have:=h2 k hk;omega
    ·rw [List.mem_singleton.1 hk];omega
theorem Tr.kids {ns:List EN} (h:Tr ns):0<ns.length∧∀ x∈ns,eC ns.length x:=by
 induction h with
 | join n ls hw _ ih =>
   obtain ⟨h1,h2⟩:=uu ls [] [] ih (by simp) (by simp)
   have hl:(au n ls).length=(cH ls [] []).1.length+1:=by simp [au]
   refine ⟨by omega,fun x hx=>?_⟩
   rw [hl]
   rcases List.mem_append.1 (show x∈(cH ls [] []).1++[bk n (cH ls [] []).2] from hx) with hx | hx
   ·exact (h1 x hx).mono (by omega)
   ·rw [List.mem_singleton.1 hx]
    intro k hk
    obtain ⟨X,Y,e,hY⟩:=kF ls [] []
    rw [jO (by rw [e];simpa using hY.trans hw.symm)] at hk
    have:=h2 k hk
    omega
theorem Tr.norm {ns:List EN} (h:Tr ns):GC ns ((ns.length:Int)-1)=ns:=by
 obtain ⟨h0,hk⟩:=h.kids
 have hself:∀ j,j<ns.length→ndE ns j∈ns:=fun j hj=>by
  have:ndE ns j=ns[j]:=by simp [ndE,hj]
  rw [this];exact List.getElem_mem hj
 have hb:bz ns (((ns.length:Int)-1).toNat+1) ((ns.length:Int)-1)=(List.range ns.length).map fun j=>((0+j:Nat):Int):=by
  have:=h.good.2 ns 0 (((ns.length:Int)-1).toNat+1) (fun j hj=>by rw [Nat.zero_add];exact (h.self _ (hself j hj)).symm) (by omega)
  rw [← this]
  congr 1
  omega
 unfold GC
 simp only [hb,List.map_map]
 refine List.ext_getElem (by simp) fun j h1 h2=>?_
 have hx:ndE ns j=ns[j]:=by simp [ndE,h2]
 have hm:ns[j]∈ns:=List.getElem_mem h2
 simp only [List.getElem_map,List.getElem_range,Function.comp,Nat.zero_add,Int.toNat_natCast,hx]
 have hks:(aj ns[j]).map (fun k=>(((List.range ns.length).map fun j=>((j:Nat):Int)).idxOf k:Int))=(aj ns[j]).map fun x:Int=>x+(0:Nat):=by
  refine List.map_congr_left fun k hkk=>?_
  obtain ⟨g1,g2⟩:=hk _ hm k hkk
  have:=uB ns.length k.toNat (by omega)
  simp only [Nat.zero_add,Int.toNat_of_nonneg g1] at this
  rw [this]
  omega
 rw [hks]
 exact h.self _ hm
end Go.Proofs.YtejpnabbmgpmaaaGreat

namespace Go.Proofs.YtejpnabbmgpmaaaGreat
open Go.Ab
def fD (f:EF):D:=.agg [.str f.nm,.str f.var,i64 f.to]
def efD (l:List EF):D:=.sl (some 3) (l.map fD)
def enD (n:EN):D:=.agg [i64 n.k,i64 n.a,i64 n.b,i64 n.c,i64 n.n,.str n.name,.str n.s,efD n.l,i64 n.pos]
def exD (ns:List EN):D:=.agg [.sl (some 9) (ns.map enD)]
theorem m0 {G} (k:Int):HP Tryz.prog G 154 [i64 k] (fun r=>r=.d (.agg [i64 (aF k),.bool (aH k)])):=by
 refine al Tryz.func154 rfl (by decide +kernel) (by simp [Tryz.ntmps154]) (veil fun E=>?_)
 simp only [go_sem]
 repeat' (refine ah E (fun h=>?_) (fun h=>?_)<;>simp only [go_sem])
 all_goals first | (exfalso;omega) | (unfold aF aH;simp_all)
end Go.Proofs.YtejpnabbmgpmaaaGreat

namespace Go.Ab
section
variable {P:Program} {cf:Cf}
structure DI (B0:Base) (g:Nat) (ns:List Name) (B:Base) (ds:List Deferred):Prop where
 ci:∃ B1,CI B0 B1 []∧B.n=B1.n∧B.io=B1.io∧B.H0=B1.H0∧(∀ b,B.O0 b↔B1.O0 b)∧B.A=B1.A∧(∀ x∈B1.U0,x∈B.U0)∧∀ p,nm B1.U0 p→B.β0 p=B1.β0 p
 df:∃ caps:Array Value,ds=[{ target:=.fn (.func g) caps,args:=#[] }]∧caps.size=ns.length∧∀ i p,ns[i]?=some p→nm B.U0 p∧(caps.getD i undef).oneCell'=true∧∃ k,B.β0 p=some k∧k.o=0∧caps.getD i undef=.pointer (some ⟨k.b,0,none⟩)
theorem sr {u:List Nat} {Φ:Exit→Act→World→Prop}:∀ (k:List It),hold P { cf with U:=u } Φ k=hold P cf Φ k
 | []=>rfl
 | .code c::k=>by
   funext e a w
   cases e<;>simp only [hold,sr k]
 | .ops all r::k=>by
   funext e a w
   cases e<;>simp only [hold,sr k]
 | .blk i::k=>by
   funext e a w
   cases e<;>simp only [hold,sr k]
theorem Dj {B0:Base} {Φ:Exit→Act→World→Prop} {k:List It} {s:St} {all:Array Oper} {fv:Operand} {at':Array TypeId} {ty:TypeId} {pos:String} {af:Array Edge} {r:List Oper} {g:Nat} (ns:List Name) (hro:cf.ro=none)
  (hev:ev s fv=.clo g (ns.map fun p=>.bx p 0)) (hbx:∀ p∈ns,∃ cs,s.hp p=some (.box cs))
  (h:ARY P { cf with U:=s.used } Φ (DI B0 g ns) (.ops all r::k) s) :
  ARY P cf Φ (fun B ds=>CI B0 B ds∧ds=[]) (.ops all ({ dst:=none,op:=.defer { callee:=.value fv,args:=#[],argTypes:=at' },type:=ty,pos:=pos,after:=af,guard:=none }::r)::k) s:=by
 intro B hB ds β a w hds hI hs l hl
 obtain ⟨hI,rfl⟩:=hI
 cases l with
 | nil=>simp at hl
 | cons i l =>
   simp only [List.map_cons,List.cons.injEq] at hl
   obtain ⟨hi,hl⟩:=hl
   simp only [wpOpsIn,hi,Region.wanted,if_true]
   have hf:=hs.ev fv
   rw [hev] at hf
   obtain ⟨vs,hfv,hvs,hvr⟩:∃ vs:Array Value,a.eval fv=.func (.func g) #[] vs∧vs.size=ns.length∧∀ i p,ns[i]?=some p→VR w.heap (s.own B.A β) s.used s.hp β (vs.getD i undef) (.bx p 0):=by
    generalize a.eval fv=v at hf
    cases hf with
    | clo f vs cs h1 h2=>exact ⟨vs,rfl,by simpa using h1,fun i p hp=>h2 i _ (by rw [List.getElem?_map,hp];rfl)⟩
   refine ⟨fun _ _=>trivial,?_⟩
   have hrun:(execOp a.eval { dst:=none,op:=.defer { callee:=.value fv,args:=#[],argTypes:=at' },type:=ty,pos:=pos,after:=af,guard:=none }:Sem Next).run P w=.ok (.defer { target:=.fn (.func g) vs,args:=#[] }) w:=by
    simp only [execOp,resolve,hfv,Deferred.ofValue,Sem.run_bind,Sem.run_pure,Result.andThen_ok,Array.map_empty,Array.append_empty]
   rw [show (Fw cf.ro).round=none by rw [hro];rfl,Oper.semAt_none,hrun,Oper.uponIn_defer]
   let B':Base:={ n:=B.n,io:=B.io,G:=B.G,H0:=B.H0,O0:=B.O0,A:=B.A,U0:=s.used,β0:=β,hA:=B.hA,hG:=B.hG }
   have hs':Sim B' β s a.tmps w:=hs.mv rfl hs.io hs.size hs.frame (Nat.le_refl _) (fun _ _ _=>rfl) (fun _ _ h=>h) (fun p k hp hk=>(hs.blocks p k hp hk).2.2) (fun _ h=>h) (fun _ _=>rfl)
   rw [← sr (u:=s.used) k]
   refine h B' ⟨hB.1,rfl,hB.2.2⟩ _ β { a with defers:={ target:=.fn (.func g) vs,args:=#[] }::a.defers } w (by show _::a.defers=_;rw [hds]) ⟨⟨B,hI,rfl,rfl,rfl,fun _=>Iff.rfl,rfl,hs.us,hs.stay⟩,vs,rfl,hvs,fun i p hp=>?_⟩ hs' l hl
   have hv:=hvr i p hp
   obtain ⟨cs,hcs⟩:=hbx p (List.mem_of_getElem? hp)
   generalize hx:vs.getD i undef=x at hv
   cases hv with
   | bx _ _ _ hn h1 h2 =>
     obtain ⟨k,hk,h0,hv⟩:=h2 _ cs hcs
     exact ⟨hn,h1,k,hk,h0,hv⟩
theorem rn {B0:Base} {fn gfn:Func} {g:Nat} {gc:Code} {ns:List Name} {u:List Nat} {Q:AV→List (Name × Ob)→Prop} {s:St} {e:Exit} (he:e=.ret∨e=.normal) (hu:B0.U0=u)
  (hgf:P.funcs[g]?=some gfn) (hgb:gfn.body=some gc) (hnm:(gfn.name == "runtime.NumGoroutine")=false) (hgn:ns.length≤gfn.ntmps) (hns:∀ p∈ns,nmb s.used p=true)
  (hg:run P ⟨gfn.ntmps,none,cf.G,s.used⟩ [.code gc] (fun e s2=>(e=.ret∨e=.normal)∧LK s s2∧RX (gE P s2 gfn.results.toList) (fun _=>True)∧fq P fn.results.toList u Q .ret (s2.fra s.fr)) (s.fra (mk (aG 0 (ns.map fun p=>AV.bx p 0)) [] []).fr)) :
  ARX cf (ΦR P fn { B0 with n:=1 } Q) (DI B0 g ns) e s:=by
 intro B hB ds β a w hds hI hs
 obtain ⟨⟨B1,hc,i1,i2,i4,i5,i6,i7,i8⟩,caps,rfl,hcs,hcap⟩:=hI
 have hB1G:B1.G=B0.G:=hc.ext.G
 have:LeavesInM Fence.wide 0 P fn a.tmps (RH { B0 with n:=1 } Q) a.defers .returning w:=by
  rw [hds]
  refine ⟨by simp,.inr ⟨fun h=>by simp [Fence.wide] at h,_,_,g,#[]++caps,rfl,?_,fun _ _=>trivial,?_⟩⟩
  ·exact ew hgf hgb hnm _ _
  have hGg:∀ q∈B.G,w.heap[q.1]?=some q.2∧¬ bx s β q.1:=by
   intro q hq
   obtain ⟨g1,g2⟩:=B.hG q hq
   have hlt:=ar g1
   refine ⟨(hs.frame _ hlt g2).trans g1,fun hb=>?_⟩
   rcases (hs.bQ hb).2.2 with h | h
   ·omega
   ·exact g2 h
  let Bg:Base:={ n:=gfn.ntmps,io:=B.io,G:=B.G,H0:=w.heap,O0:=bx s β,A:=B.A,U0:=s.used,β0:=β,hA:=fun b hb=>Nat.lt_of_lt_of_le (B.hA b hb) hs.size,hG:=hGg }
  have hsg:Sim Bg β (s.fra (mk (aG 0 (ns.map fun p=>AV.bx p 0)) [] []).fr) ((#[]++caps)++Array.replicate (gfn.ntmps-(#[]++caps).size) undef) w:=by
   refine { tms:=by show (_:Array Value).size=gfn.ntmps;simp;omega,io:=hs.io,size:=Nat.le_refl _,frame:=fun _ _ _=>rfl,slots:=fun t=>?_,objs:=hs.objs,blocks:=fun p k hp hk=>⟨(hs.blocks p k hp hk).1,(hs.blocks p k hp hk).2.1,.inr ⟨p,k,hp,hk,rfl⟩⟩,inj:=hs.inj,us:=fun _ h=>h,stay:=fun _ _=>rfl }
   show VR w.heap (s.own B.A β) s.used s.hp β _ ((mk (aG 0 (ns.map fun p=>AV.bx p 0)) [] []).fr t)
   rw [eJ,bg,if_pos (Nat.zero_le _),Nat.sub_zero,List.getElem?_map]
   cases hp:ns[t]? with
   | none=>exact .un _
   | some p =>
     obtain ⟨c1,c2,k,c3,c4,c5⟩:=hcap t p hp
     have hlt:t<caps.size:=by rw [hcs];exact (List.getElem?_eq_some_iff.1 hp).1
     have e:((#[]++caps)++Array.replicate (gfn.ntmps-(#[]++caps).size) undef).getD t undef=caps.getD t undef:=by
      simp [Array.getD_eq_getD_getElem?,Array.getElem?_append,hlt]
     rw [e]
     have hnb:=hns p (List.mem_of_getElem? hp)
     exact .bx _ _ _ (c1.mono hs.us) c2 fun _ cs _=>⟨k,(hs.stay p c1).trans c3,c4,c5⟩
  have hrun:=aW hg Bg ⟨rfl,rfl,hB.2.2⟩ [] β { tmps:=(#[]++caps)++Array.replicate (gfn.ntmps-(#[]++caps).size) undef,defers:=[] } w rfl hsg
  refine (callsDIn_of_wp (R:=fun e w'=>∃ v,e=.returned v∧LeavesInM Fence.wide 0 P fn a.tmps (RH { B0 with n:=1 } Q) [] .returning w') hgf hgb trivial (wpIn_mono (F:=Fence.wide) hrun fun e2 a2 w2 hq=>?_)).mono ?_
  ·obtain ⟨hd2,s2,β2,⟨he2,hlk,hres,hfq⟩,hs2⟩:=hq
   obtain ⟨_,v2,_,hr2,_⟩:=dL hs2 gfn hres
   have hown2:∀ b,bx s2 β2 b→w.heap.size≤b∨bx s β b:=fun b hb=>(hs2.bQ hb).2.2
   have hust:∀ p,nm s.used p→β2 p=β p:=fun p hp=>hs2.stay p hp
   have hus2:∀ x∈s.used,x∈s2.used:=hs2.us
   have hsame:∀ b,b<w.heap.size→¬ bx s β b→w2.heap[b]?=w.heap[b]?:=fun b hb hn=>hs2.frame b hb hn
   have hz2:w.heap.size≤w2.heap.size:=hs2.size
   have hr:∀ v d,Rep w.heap (s.own B.A β) v d→Rep w2.heap (s2.own B1.A β2) v d:=fun v d hd=>hd.mono (fun b hb hlt=>hsame b hlt (fun h=>hb (.inr h))) (by
    rintro b hb (h1 | h1)
    ·rw [← i6] at h1;exact .inl h1
    ·rcases hown2 b h1 with h | h
     ·omega
     ·exact .inr h)
   have hs4:Sim B1 β2 (s2.fra s.fr) a.tmps w2:=by
    refine { tms:=hs.tms.trans i1,io:=hs2.io.trans i2,size:=?_,frame:=fun b hb ho=>?_,slots:=fun t=>?_,objs:=fun p o ho=>?_,blocks:=fun p k hp hk=>?_,inj:=hs2.inj,us:=fun x hx=>hus2 x (hs.us x (i7 x hx)),stay:=fun p hp=>?_ }
    ·rw [← i4];exact Nat.le_trans hs.size hz2
    ·rw [← i4] at hb ⊢
     have ho':¬ B.O0 b:=fun h=>ho ((i5 b).1 h)
     refine (hsame b (Nat.lt_of_lt_of_le hb hs.size) (fun h=>?_)).trans (hs.frame b hb ho')
     rcases (hs.bQ h).2.2 with h | h
     ·omega
     ·exact ho' h
    ·exact (hs.slots t).mono hr hus2 (fun p hp o' ho=>by obtain ⟨o,h1,h2⟩:=hlk p o' hp ho;exact ⟨o,h1,h2,hust p hp⟩)
    ·have:=hs2.objs p o ho
     rw [← i6]
     exact this
    ·obtain ⟨b1,b2,b3⟩:=hs2.blocks p k hp hk
     refine ⟨b1,by rw [← i6];exact b2,?_⟩
     rw [← i4]
     rcases b3 with b3 | b3
     ·have h3:w.heap.size≤k.b:=b3
      have:=hs.size
      exact .inl (by omega)
     ·rcases (hs.bQ b3).2.2 with h | h
      ·exact .inl h
      ·exact .inr ((i5 _).1 h)
    ·have hp':nm B.U0 p:=hp.mono i7
     exact (hust p (hp'.mono hs.us)).trans ((hs.stay p hp').trans (i8 p hp))
   have hlv:LeavesInM Fence.wide 0 P fn a.tmps (RH { B0 with n:=1 } Q) [] .returning w2:=by
    refine hc.back hs4 (fun w' hs'=>?_)
    obtain ⟨l,v,⟨r,hp',u',τ,hQ,hle⟩,hr,hv⟩:=dL hs' fn hfq
    obtain ⟨β3,hs3,_⟩:=(sv hs' hv).le (τ:=τ) (by show Le B0.U0 τ _ _;rw [hu];exact hle.le)
    exact ⟨v,hr,v,r,hp',u',β3,rfl,hQ,hs3⟩
   rcases he2 with rfl | rfl
   ·exact ⟨hd2,v2,hr2,v2,rfl,hlv⟩
   ·exact ⟨hd2,v2,hr2,v2,rfl,hlv⟩
  ·rintro e u' w' ⟨rfl,v,rfl,hl⟩
   exact hl
 rcases he with rfl | rfl<;>exact this
theorem ARX.le {Φ:Exit→Act→World→Prop} {I J:Base→List Deferred→Prop} {e:Exit} {s:St} (h:ARX cf Φ I e s) (hj:∀ B ds,J B ds→I B ds):ARX cf Φ J e s:=fun B hB ds β a w h1 h2 h3=>h B hB ds β a w h1 (hj B ds h2) h3
theorem xK {B0:Base} {fn:Func} {u:List Nat} {Q:AV→List (Name × Ob)→Prop} {s:St} {e:Exit} (he:e=.ret∨e=.normal) (hu:B0.U0=u) (h:fq P fn.results.toList u Q .ret s) :
 ARX cf (ΦR P fn { B0 with n:=1 } Q) (fun B ds=>CI B0 B ds∧ds=[]) e s:=(tT he hu h).le fun _ _ h=>h.1
theorem wy {G:List (Nat × Obj)} {f:FuncId} {fn:Func} {c:Code} {args:List AV} {hp:List (Name × Ob)} {u:List Nat} {Q:AV→List (Name × Ob)→Prop} (hf:P.funcs[f]?=some fn) (hb:fn.body=some c)
  (hnm:(fn.name == "runtime.NumGoroutine")=false) (hn:args.length≤fn.ntmps)
  (h:∀ B0:Base,B0.U0=u→ARY P ⟨fn.ntmps,none,G,u⟩ (ΦR P fn { B0 with n:=1 } Q) (fun B ds=>CI B0 B ds∧ds=[]) [.code c] (mk (aG 0 args) hp u)):HCall P G f args hp u Q:=by
 refine ⟨ew hf hb hnm,fun B β vs w h1 h2 h3 h4 hs=>?_⟩
 have hsz:vs.size=args.length:=hs.tms.trans h1
 have hs':Sim { B with n:=fn.ntmps } β (mk (aG 0 args) hp u) (vs++Array.replicate (fn.ntmps-vs.size) undef) w:=by
  refine { hs with tms:=by simp;omega,slots:=fun t=>?_ }
  have:=hs.slots t
  by_cases ht:t<vs.size
  ·have e:(vs++Array.replicate (fn.ntmps-vs.size) undef).getD t undef=vs.getD t undef:=by
    simp [Array.getD_eq_getD_getElem?,Array.getElem?_append,ht]
   rw [e];exact this
  ·have e:(mk (aG 0 args) hp u).fr t=.un:=by
    rw [eJ,bg,if_pos (Nat.zero_le _),List.getElem?_eq_none (by omega)];rfl
   rw [e];exact .un _
 have hrun:=h { B with n:=fn.ntmps } h3 { B with n:=fn.ntmps } ⟨rfl,h3,h4⟩ [] β { tmps:=vs++Array.replicate (fn.ntmps-vs.size) undef,defers:=[] } w rfl ⟨⟨.refl _,[],rfl,List.nodup_nil,fun D hD=>by cases hD⟩,rfl⟩ hs'
 exact callsIn_of_wp_marks hf hb trivial hrun
end
end Go.Ab

namespace Go.Ab
structure Trk (W0:World) (C0 X0 C X:Nat→Prop) (W:World):Prop where
 io:wio W=wio W0
 size:W0.heap.size≤W.heap.size
 same:∀ b,b<W0.heap.size→¬ C0 b→¬ X0 b→W.heap[b]?=W0.heap[b]?
 c:∀ b,b<W0.heap.size→C b→C0 b
 x:∀ b,b<W0.heap.size→X b→X0 b
theorem Trk.stp {W0 W W':World} {C0 X0 C X X':Nat→Prop} (h:Trk W0 C0 X0 C X W) (g:Stp W X W' X'):Trk W0 C0 X0 C X' W' :=
 ⟨g.io.trans h.io,Nat.le_trans h.size g.size,fun b hb h1 h2=>(g.same b (Nat.lt_of_lt_of_le hb h.size) (fun hx=>h2 (h.x b hb hx))).trans (h.same b hb h1 h2),h.c,fun b hb hx=>by
  rcases (g.new b hx).1 with h1 | h1
  ·exact h.x b hb h1
  ·have:=h.size;omega⟩
def Itz.trk (z:Itz) (W0:World) (C0 X0:Nat→Prop):Itz :=
 { l:=z.l,w:=z.w,C0:=z.C0,J:=fun n C X W=>z.J n C X W∧Trk W0 C0 X0 C X W,Jx:=fun n C X W=>z.Jx n C X W∧Trk W0 C0 X0 C X W }
theorem Itz.Ok.trk {P:Program} {G:List (Nat × Obj)} {N:Nat} {xs:Nat→List D} {z:Itz} (h:z.Ok P G N xs) (W0:World) (C0 X0:Nat→Prop):(z.trk W0 C0 X0).Ok P G N xs:=by
 refine ⟨h.lt,fun n C X W X' W' hj hs=>⟨h.stab n C X W X' W' hj.1 hs,hj.2.stp hs⟩,fun n C X W X' W' hj hs=>⟨h.stabx n C X W X' W' hj.1 hs,hj.2.stp hs⟩,fun n C X W vs hn hj hv hr=>?_⟩
 refine (h.round n C X W vs hn hj.1 hv hr).mono ?_
 rintro e W' ⟨C',hc,hq⟩
 have ht:Trk W0 C0 X0 C' X W':=by
  obtain ⟨c1,c2,c3,c4,c5⟩:=hc
  refine ⟨c1.trans hj.2.io,Nat.le_trans hj.2.size c2,fun b hb h1 h2=>(c3 b (Nat.lt_of_lt_of_le hb hj.2.size) (fun hx=>h1 (hj.2.c b hb hx))).trans (hj.2.same b hb h1 h2),fun b hb hx=>?_,hj.2.x⟩
  rcases (c5 b hx).1 with g | g
  ·exact hj.2.c b hb g
  ·have:=hj.2.size;omega
 refine ⟨C',hc,?_⟩
 rcases hq with ⟨h1,h2⟩ | ⟨h1,h2⟩
 ·exact .inl ⟨h1,h2,ht⟩
 ·exact .inr ⟨h1,h2,ht⟩
section
variable {P:Program} {cf:Cf} {G:List (Nat × Obj)} {N:Nat} {xs:Nat→List D} {z:Itz} {k:List It} {s:St}
end
end Go.Ab

namespace Go.Proofs.YtejpnabbmgpmaaaGreat
open Go.Ab
theorem AJ {G} (l:List Int) (hl:l.length≤1000000):HCall Tryz.prog G 155 [.d (.sl none (l.map i64))] [] [] (fun r hp'=>r=.vw [0] 0 l.length∧hp'=[([0],.arr none (l.map i64))]):=by
 refine HCall.thaw (Q:=fun r hp'=>(r=.d .nils∧hp'=[]∧l=[])∨(r=.vw [0] 0 l.length∧hp'=[([0],.arr none (l.map i64))])) ?_ 0 none (by simp) ?_
 ·refine aq Tryz.func155 rfl (by decide +kernel) (by simp [Tryz.ntmps155]) (veil fun E=>?_)
  simp only [go_sem]
  refine rT E (e:=3) (by simp only [go_sem]) (by simp only [go_sem]) rfl fun b hb=>?_
  simp only [go_sem]
  refine aB E (fun h=>?_) (fun h=>?_)<;>simp only [go_sem]
  ·have:l=[]:=by simpa using hb h
   subst this
   refine ⟨_,[],[],id,.inl ⟨rfl,rfl,rfl⟩,?_⟩
   simp only [go_sem]
  ·refine ⟨by omega,_,_,[0],tau [([0],[7])],.inr ⟨rfl,rfl⟩,?_⟩
   simp only [go_sem]
 ·rintro r hp' (⟨rfl,rfl,rfl⟩ | h)
  ·exact .inr ⟨rfl,rfl,rfl,rfl⟩
  ·exact .inl h
theorem zO {G} (l:List EF) (hl:l.length≤1000000):HCall Tryz.prog G 156 [.d (efD l)] [] [] (fun r hp'=>r=.vw [0] 0 l.length∧hp'=[([0],.arr (some 3) (l.map fD))]):=by
 refine HCall.thaw (Q:=fun r hp'=>(r=.d .nils∧hp'=[]∧l=[])∨(r=.vw [0] 0 l.length∧hp'=[([0],.arr (some 3) (l.map fD))])) ?_ 0 (some 3) (by simp) ?_
 ·unfold efD
  refine aq Tryz.func156 rfl (by decide +kernel) (by simp [Tryz.ntmps156]) (veil fun E=>?_)
  simp only [go_sem]
  refine rT E (e:=177) (by simp only [go_sem]) (by simp only [go_sem]) rfl fun b hb=>?_
  simp only [go_sem]
  refine aB E (fun h=>?_) (fun h=>?_)<;>simp only [go_sem]
  ·have:l=[]:=by simpa using hb h
   subst this
   refine ⟨_,[],[],id,.inl ⟨rfl,rfl,rfl⟩,?_⟩
   simp only [go_sem]
  ·refine ⟨by omega,_,_,[0],tau [([0],[7])],.inr ⟨rfl,rfl⟩,?_⟩
   simp only [go_sem]
 ·rintro r hp' (⟨rfl,rfl,rfl⟩ | h)
  ·exact .inr ⟨rfl,rfl,rfl,rfl⟩
  ·exact .inl h
theorem gQ {G} (n:EN) (hl:n.l.length≤1000000):HCall Tryz.prog G 104 [.d (enD n)] [] [] (fun r hp'=>r=.vw [0] 0 (aj n).length∧hp'=[([0],.arr none ((aj n).map i64))]):=by
 unfold enD efD
 refine aq Tryz.func104 rfl (by decide +kernel) (by simp [Tryz.ntmps104]) (veil fun E=>?_)
 simp only [go_sem]
 refine ag E (m0 n.k) rfl rfl (by simp) ?_
 rintro _ rfl
 simp only [go_sem]
 have hk3:=bB n.k
 refine ⟨⟨by omega,by omega⟩,?_⟩
 refine cJ E [16] none _ rfl (by simp only [go_sem];rfl) ?_
 simp only [go_sem]
 obtain ⟨K,hK⟩:∃ K,K=[n.a,n.b,n.c].take (aF n.k):=⟨_,rfl⟩
 have hKl:K.length=aF n.k:=by rw [hK];simp;omega
 have hKd:List.take (aF n.k) [i64 n.a,i64 n.b,i64 n.c]=K.map i64:=by rw [hK,List.map_take];rfl
 rw [Nat.sub_zero,hKd]
 refine ab E [.d (.sl none (K.map i64))] [] [] (AJ K (by omega)) rfl rfl ⟨by simp only [go_sem],by rw [aa];decide⟩ rfl (by simp only [go_sem]) (by simp only [go_sem]) ?_
 rintro _ _ ⟨rfl,rfl⟩
 simp only [go_sem]
 refine aB E (fun hp=>?_) (fun hp=>?_)<;>simp only [go_sem]
 ·refine az E (X:={ i:Nat // i≤n.l.length }) (fun x=>[(4,.vw [99] 0 (K.length+x.1)),(24,.d (.sl (some 3) (n.l.map fD))),(25,.d (i64 n.l.length)),(26,.d (i64 x.1))]) (fun x=>[([99],.arr none ((K++(n.l.take x.1).map (·.to)).map i64))]) [99] (fun x=>n.l.length-x.1) ⟨0,Nat.zero_le _⟩ (tau [([99],[20,0])]) ?_ ?_
  ·simp only [go_sem]
   rw [List.append_nil]
  rintro ⟨i,hi⟩ E0
  refine aC E0 fun Q' hQ E'=>?_
  simp only at hi ⊢
  simp only [go_sem]
  refine ah E' (fun h1=>?_) (fun h1=>?_)<;>simp only [go_sem]
  ·have h1':i<n.l.length:=by omega
   have hx:(n.l.map fD).getD i .nilp=.agg [.str n.l[i].nm,.str n.l[i].var,i64 n.l[i].to]:=by simp [h1',fD]
   refine ⟨⟨by omega,by omega⟩,?_⟩
   rw [hx]
   simp only [go_sem]
   have htk:List.take (K.length+i) (List.map i64 (K++List.map (·.to) (List.take i n.l)))++[i64 n.l[i].to]=List.map i64 (K++List.map (·.to) (List.take (i+1) n.l)):=by
    rw [List.take_of_length_le (by simp;omega),List.take_succ_eq_append_getElem h1']
    simp only [List.map_append,List.map_cons,List.map_nil,List.append_assoc]
   rw [htk,ai ⟨by omega,by omega⟩,hQ]
   simp only [go_sem]
   refine ⟨by omega,⟨i+1,by omega⟩,by show n.l.length-(i+1)<_;omega,tau [([99],[34])],?_⟩
   simp only [go_sem]
   exact ⟨rfl,rfl⟩
  ·rw [hQ]
   simp only [go_sem]
   have hi2:i=n.l.length:=by omega
   subst hi2
   have hkk:K++List.map (·.to) (List.take n.l.length n.l)=aj n:=by
    rw [List.take_length,hK]
    simp [aj,hp]
   have hkl:(aj n).length=K.length+n.l.length:=by rw [← hkk];simp
   rw [hkk,← hkl]
   refine ⟨_,_,[0],tau [([0],[99])],⟨rfl,rfl⟩,?_⟩
   simp only [go_sem]
 ·have hkk:K=aj n:=by
   rw [hK]
   simp [aj,hp]
  rw [hkk]
  refine ⟨_,_,[0],tau [([0],[20,0])],⟨rfl,rfl⟩,?_⟩
  simp only [go_sem]
end Go.Proofs.YtejpnabbmgpmaaaGreat

namespace Go.Proofs.YtejpnabbmgpmaaaGreat
open Go.Ab
theorem GZ:Tryz.prog.fM 177=true:=by kernel_rfl
theorem bG {ns:List EN} {i:Nat} (h:i<ns.length):ndE ns i=ns[i]:=by simp [ndE,h]
def fdE (l:List EF) (i:Nat):EF:=l.getD i ⟨[],[],0⟩
theorem jK {l:List EF} {i:Nat} (h:i<l.length):(l.map fD).getD i .nilp=.agg [.str (fdE l i).nm,.str (fdE l i).var,i64 (fdE l i).to]:=by simp [h,fD,fdE]
theorem aN {ns:List EN} {i:Nat} (h:i<ns.length):(ns.map enD).getD i .nilp=.agg [i64 (ndE ns i).k,i64 (ndE ns i).a,i64 (ndE ns i).b,i64 (ndE ns i).c,i64 (ndE ns i).n,.str (ndE ns i).name,.str (ndE ns i).s,.sl (some 3) ((ndE ns i).l.map fD),i64 (ndE ns i).pos]:=by simp [h,enD,efD,ndE]
theorem Gj {G} (n:EN) (hl:n.l.length≤1000000):HP Tryz.prog G 68 [enD n,enD n] (fun r=>r=.d (.bool true)):=by
 unfold enD efD
 refine al Tryz.func68 rfl (by decide +kernel) (by simp [Tryz.ntmps68]) (veil fun E=>?_)
 simp only [go_sem]
 repeat (first
  | (apply b6 E;(· simp only [go_sem]);(· intro h;(try simp only [bq] at h);simp only [↓h,go_sem];rfl);simp only [go_sem])
  | (apply ba E;(· simp only [go_sem]);(· intro h;(try simp only [bq] at h);simp only [↓h,go_sem];rfl);(· intro h;(try simp only [bq] at h);simp only [↓h,go_sem];rfl);simp only [go_sem])
  | (apply a8 E;(· simp only [go_sem]);(· rfl);(· intro h h';(try simp only [bq] at h h');simp only [↓h,↓h',go_sem];rfl);simp only [go_sem])
  | (apply aI E;(· simp only [go_sem]);(· rfl);(· intro h h';(try simp only [bq] at h h');simp only [↓h,↓h',go_sem];rfl);(· intro h h';(try simp only [bq] at h h');simp only [↓h,↓h',go_sem];rfl);simp only [go_sem])
  | (apply bV E;(· decide);simp only [go_sem]))
 refine xi E [2] (.agg [i64 n.k,i64 n.a,i64 n.b,i64 n.c,i64 n.n,.str n.name,.str n.s,.sl (some 3) (n.l.map fD),i64 n.pos]) rfl rfl ?_
 simp only [go_sem]
 refine xi E [3] (.agg [i64 n.k,i64 n.a,i64 n.b,i64 n.c,i64 n.n,.str n.name,.str n.s,.sl (some 3) (n.l.map fD),i64 n.pos]) rfl rfl ?_
 simp only [go_sem]
 refine cq E (X:={ j:Nat // j≤n.l.length }) (fun x=>[(2,.d (.ptr (.agg [i64 n.k,i64 n.a,i64 n.b,i64 n.c,i64 n.n,.str n.name,.str n.s,.sl (some 3) (n.l.map fD),i64 n.pos]))),(3,.d (.ptr (.agg [i64 n.k,i64 n.a,i64 n.b,i64 n.c,i64 n.n,.str n.name,.str n.s,.sl (some 3) (n.l.map fD),i64 n.pos]))),(5,.d (i64 x.1))]) (fun x=>n.l.length-x.1) rfl ⟨0,Nat.zero_le _⟩ ?_ ?_
 ·simp only [go_sem]
  all_goals rfl
 rintro ⟨j,hj⟩ E3
 refine aC E3 fun Q3 hQ3 E4=>?_
 simp only at hj ⊢
 simp only [go_sem]
 refine ah E4 (fun h4=>?_) (fun h4=>?_)<;>simp only [go_sem]
 ·have h4':j<n.l.length:=by omega
  refine ak mixed E4 fun X=>?_
  simp only [go_sem]
  refine ⟨⟨by omega,by omega⟩,?_⟩
  rw [jK h4']
  simp only [go_sem]
  refine ⟨⟨by omega,by omega⟩,?_⟩
  rw [jK h4']
  simp only [go_sem]
  refine H6 X (b:=true) GZ (by rw [FP]) (by simp only [go_sem]) rfl rfl (by simp [eqS,eqP,kOk,ti9,ti3]) ?_
  simp only [go_sem]
  refine ⟨by decide +kernel,?_⟩
  rw [hQ3]
  simp only [go_sem]
  refine ⟨⟨j+1,by omega⟩,by show n.l.length-(j+1)<_;omega,?_⟩
  rw [ai ⟨by omega,by omega⟩]
  rfl
 ·rw [hQ3]
  simp only [go_sem]
theorem C1 {G} (ns:List EN) (hN:ns.length≤1000000) (hfl:∀ n∈ns,n.l.length≤1000000):HP Tryz.prog G 28 [exD ns,exD ns] (fun r=>r=.d (.bool true)):=by
 unfold exD
 refine al Tryz.func28 rfl (by decide +kernel) (by simp [Tryz.ntmps28]) (veil fun E=>?_)
 simp only [go_sem]
 repeat (first
  | (apply b6 E;(· simp only [go_sem]);(· intro h;(try simp only [bq] at h);simp only [↓h,go_sem];rfl);simp only [go_sem])
  | (apply ba E;(· simp only [go_sem]);(· intro h;(try simp only [bq] at h);simp only [↓h,go_sem];rfl);(· intro h;(try simp only [bq] at h);simp only [↓h,go_sem];rfl);simp only [go_sem])
  | (apply a8 E;(· simp only [go_sem]);(· rfl);(· intro h h';(try simp only [bq] at h h');simp only [↓h,↓h',go_sem];rfl);simp only [go_sem])
  | (apply aI E;(· simp only [go_sem]);(· rfl);(· intro h h';(try simp only [bq] at h h');simp only [↓h,↓h',go_sem];rfl);(· intro h h';(try simp only [bq] at h h');simp only [↓h,↓h',go_sem];rfl);simp only [go_sem])
  | (apply bV E;(· decide);simp only [go_sem]))
 refine xi E [2] (.agg [.sl (some 9) (ns.map enD)]) rfl rfl ?_
 simp only [go_sem]
 refine xi E [3] (.agg [.sl (some 9) (ns.map enD)]) rfl rfl ?_
 simp only [go_sem]
 refine cq E (X:={ i:Nat // i≤ns.length }) (fun x=>[(2,.d (.ptr (.agg [.sl (some 9) (ns.map enD)]))),(3,.d (.ptr (.agg [.sl (some 9) (ns.map enD)]))),(5,.d (i64 x.1))]) (fun x=>ns.length-x.1) rfl ⟨0,Nat.zero_le _⟩ ?_ ?_
 ·simp only [go_sem]
  all_goals rfl
 rintro ⟨i,hi⟩ E'
 refine aC E' fun Q' hQ E'=>?_
 simp only at hi ⊢
 simp only [go_sem]
 refine ah E' (fun h1=>?_) (fun h1=>?_)<;>simp only [go_sem]
 ·have hi':i<ns.length:=by omega
  have hin:ndE ns i∈ns:=by rw [bG hi'];exact List.getElem_mem hi'
  refine ak mixed E' fun X=>?_
  simp only [go_sem]
  refine ⟨⟨by omega,by omega⟩,?_⟩
  rw [aN hi']
  simp only [go_sem]
  refine ⟨⟨by omega,by omega⟩,?_⟩
  rw [aN hi']
  simp only [go_sem]
  refine bK X (Gj (ndE ns i) (hfl _ hin)) rfl rfl (by simp) ?_
  simp only [go_sem]
  refine ⟨by decide +kernel,?_⟩
  rw [hQ]
  simp only [go_sem]
  refine ⟨⟨i+1,by omega⟩,by show ns.length-(i+1)<_;omega,?_⟩
  rw [ai ⟨by omega,by omega⟩]
  rfl
 ·rw [hQ]
  simp only [go_sem]
end Go.Proofs.YtejpnabbmgpmaaaGreat

namespace Go.Proofs.YtejpnabbmgpmaaaGreat
open Go.Ab
def ib (n:EN):Bool:=if n.k=4∨n.k=5∨n.k=7∨n.k=8∨n.k=12 then dQ n.name else if n.k=13 then kl n.name else n.name.isEmpty
def dY (n:EN):Bool :=
 if n.k=1 then n.s.isEmpty else if n.k=2 then (decide (n.n=0) || decide (n.n=1)) && n.s.isEmpty else if n.k=10 then decide (1≤n.n) && decide (n.n≤7) && n.s.isEmpty
 else if n.k=3 then decide (n.n=0) && decide (n.s.length≤200) else decide (n.n=0) && n.s.isEmpty
def fL (k:Int) (f:EF):Bool:=if k=11 then dQ f.nm && f.var.isEmpty else kl f.nm && dQ f.var
def bY (n:EN):Bool :=
 if aH n.k then (n.l.all (fL n.k)) && (decide ((if n.k=14 then 1 else 0)≤n.l.length) && decide (n.l.length≤30) && decide ((n.l.map (·.nm)).Nodup)) else n.l.isEmpty
def ff (n:EN):Bool:=([n.a,n.b,n.c].drop (aF n.k)).all fun x=>decide (x=0)
def bL (n:EN):Bool:=decide (1≤n.k) && decide (n.k≤14) && decide (0≤n.pos) && decide (n.pos≤1048576) && (ib n && dY n && bY n && ff n)
def dN (ns:List EN) (i:Nat):Bool:=((aj (ndE ns i)).all fun k=>decide (0≤k) && decide (k<(i:Int))) && (decide ((ndE ns i).k≠8) || decide ((ndE ns (ndE ns i).a.toNat).k=5))
def uj (ns:List EN) (k:Nat):Nat:=(ns.flatMap aj).countP fun x=>decide (x=(k:Int))
def uW (d:List Int) (n:EN):Int:=(aj n).foldl (fun m k=>max m (d.getD k.toNat 0)) 0+1
def dy:List EN→List Int→List Int
 | [],d=>d
 | n::r,d=>dy r (d++[uW d n])
def iy (ns:List EN):Int:=(dy ns []).getD (ns.length-1) 0
def okE (ns:List EN):Bool:=(List.range ns.length).all fun i=>bL (ndE ns i) && dN ns i
def mG (ns:List EN):Bool:=(List.range (ns.length-1)).all fun k=>decide (uj ns k=1)
def cA (ns:List EN):Int:=if ns.length=0∨600<ns.length then 8 else if okE ns && mG ns then (if 100<iy ns then 6 else 0) else 4
end Go.Proofs.YtejpnabbmgpmaaaGreat

namespace Go.Proofs.YtejpnabbmgpmaaaGreat
open Go.Ab
theorem Iy:wX Tryz.prog 4=some (.bool false):=by kernel_rfl
theorem qn {κ:Type} [DecidableEq κ] (a b:κ) (d:D):∀ ms:List (κ × D),mlook (mset ms a d) b=if a=b then some d else mlook ms b
 | []=>rfl
 | q::r=>by
   simp only [mset]
   split
   ·rename_i e
    simp only [mlook]
    rw [e]
    split<;>rfl
   ·rename_i e
    simp only [mlook,qn a b d r]
    split
    ·rename_i e2
     rw [if_neg (fun e3=>e (e2.trans e3.symm))]
    ·rfl
def setOf (l:List (List UInt8)):List (List UInt8 × D):=l.foldl (fun ms u=>mset ms u (.bool true)) []
theorem setOf_snoc (l:List (List UInt8)) (u:List UInt8):setOf (l++[u])=mset (setOf l) u (.bool true):=by simp [setOf]
theorem Ci (l:List (List UInt8)) (u:List UInt8):(mlook (setOf l) u).getD (.bool false)=.bool (decide (u∈l)):=by
 suffices h:∀ l:List (List UInt8),mlook (setOf l) u=if u∈l then some (.bool true) else none by
  rw [h];split<;>simp_all
 intro l
 induction hl:l.length generalizing l with
 | zero=>have:l=[]:=List.length_eq_zero_iff.1 hl;subst this;rfl
 | succ n ih =>
   have hne:l≠[]:=by intro e;rw [e] at hl;simp at hl
   obtain ⟨r,x,rfl⟩:∃ r x,l=r++[x]:=⟨l.dropLast,l.getLast hne,(List.dropLast_concat_getLast hne).symm⟩
   rw [setOf_snoc,qn,ih r (by simpa using hl)]
   by_cases h1:x=u
   ·subst h1;simp
   ·rw [if_neg h1]
    simp [Ne.symm h1]
def twice (l:List (List UInt8)):Bool:=!decide l.Nodup
theorem xS {l:List (List UInt8)} {i:Nat} (hi:i<l.length) (h:(l.take i).Nodup) (h2:l.getD i [] ∉ l.take i):(l.take (i+1)).Nodup:=by
 have e:l.getD i []=l[i]:=by simp [hi]
 rw [e] at h2
 rw [List.take_succ_eq_append_getElem hi,List.nodup_append]
 exact ⟨h,by simp,fun x hx y hy=>by rw [List.mem_singleton.1 hy];rintro rfl;exact h2 hx⟩
theorem Bj {l:List (List UInt8)} {i:Nat} (hi:i<l.length) (h2:l.getD i []∈l.take i):twice l=true:=by
 have e:l.getD i []=l[i]:=by simp [hi]
 rw [e] at h2
 have:¬ l.Nodup:=fun hn=>by
  have hs:(l.take (i+1)).Nodup:=hn.sublist (List.take_sublist _ _)
  rw [List.take_succ_eq_append_getElem hi,List.nodup_append] at hs
  exact hs.2.2 _ h2 _ (by simp) rfl
 simp [twice,this]
theorem wb {G} (l:List (List UInt8)) (hl:l.length≤1000000):HP Tryz.prog G 160 [strs l] (fun r=>r=.d (.bool (twice l))):=by
 refine al Tryz.func160 rfl (by decide +kernel) (by simp [Tryz.ntmps160]) (veil fun E=>?_)
 unfold strs
 simp only [go_sem]
 refine zp E (by simp) (by simp [aa]) ?_
 simp only [go_sem]
 refine bl E (X:={ i:Nat // i≤l.length∧(l.take i).Nodup }) (fun x=>[(3,.mp [6]),(7,.d (.sl none (l.map .str))),(8,.d (i64 l.length)),(9,.d (i64 x.1))]) (fun x=>[([6],.map (menc D.str (setOf (l.take x.1))))]) [6] (fun x=>l.length-x.1) ⟨0,by simp⟩ ?_ ?_
 ·simp only [go_sem]
  all_goals rfl
 rintro ⟨i,hi,hn⟩ E'
 simp only [go_sem]
 refine ah E' (fun h1=>?_) (fun h1=>?_)<;>simp only [go_sem]
 ·have hi':i<l.length:=by omega
  refine ⟨⟨by omega,by omega⟩,?_⟩
  rw [lj hi']
  simp only [go_sem]
  refine Bu E' [6] (setOf (l.take i)) (l.getD i []) (.bool false) (by rw [Cz]) (BC (by rw [ti9])) Iy rfl rfl rfl (by simp) ?_
  simp only [go_sem]
  rw [Ci]
  refine ah E' (fun h2=>?_) (fun h2=>?_)<;>simp only [go_sem]
  ·rw [Bj hi' h2]
  refine sW E' [6] (setOf (l.take i)) (l.getD i []) (.bool true) (by rw [Cz]) (BC (by rw [ti9])) rfl rfl rfl rfl rfl ?_
  simp only [go_sem]
  refine ⟨⟨i+1,by omega,xS hi' hn h2⟩,by show l.length-(i+1)<_;omega,by rw [ai ⟨by omega,by omega⟩];rfl,?_⟩
  rw [List.take_succ_eq_append_getElem hi',setOf_snoc]
  simp [hi']
 ·have hil:i=l.length:=by omega
  subst hil
  rw [List.take_length] at hn
  simp [twice,hn]
structure dc (B:Nat) (n:EN):Prop where
 nm:n.name.length≤B
 s:n.s.length≤B
 l:n.l.length≤1000000
 f:∀ f∈n.l,f.nm.length≤B∧f.var.length≤B
abbrev BIG:Nat:=9223372036854775807
theorem kH (l:List UInt8):(l == [])=l.isEmpty:=by cases l<;>rfl
theorem DO {G} (n:EN) (h:dc BIG n):HP Tryz.prog G 106 [enD n] (fun r=>r=.d (.bool (ib n))):=by
 generalize hb:ib n=b
 unfold ib at hb
 have c1:=rI (G:=G) n.name h.nm
 have c2:=wu (G:=G) n.name h.nm
 generalize dQ n.name=x at c1 hb
 generalize kl n.name=y at c2 hb
 unfold enD efD
 refine al Tryz.func106 rfl (by decide +kernel) (by simp [Tryz.ntmps106]) (veil fun E=>?_)
 simp only [go_sem]
 refine ah E (fun h4=>?_) (fun h4=>?_)<;>simp only [go_sem]
 ·rw [decide_eq_true h4]
  try simp only [go_sem]
  refine ag E (c1) rfl rfl (by simp) ?_
  rintro _ rfl
  simp only [go_sem]
  subst hb
  rw [if_pos (by omega)]
 refine ah E (fun h5=>?_) (fun h5=>?_)<;>simp only [go_sem]
 ·rw [decide_eq_true h5]
  try simp only [go_sem]
  refine ag E (c1) rfl rfl (by simp) ?_
  rintro _ rfl
  simp only [go_sem]
  subst hb
  rw [if_pos (by omega)]
 refine ah E (fun h7=>?_) (fun h7=>?_)<;>simp only [go_sem]
 ·rw [decide_eq_true h7]
  try simp only [go_sem]
  refine ag E (c1) rfl rfl (by simp) ?_
  rintro _ rfl
  simp only [go_sem]
  subst hb
  rw [if_pos (by omega)]
 refine ah E (fun h8=>?_) (fun h8=>?_)<;>simp only [go_sem]
 ·rw [decide_eq_true h8]
  try simp only [go_sem]
  refine ag E (c1) rfl rfl (by simp) ?_
  rintro _ rfl
  simp only [go_sem]
  subst hb
  rw [if_pos (by omega)]
 refine ah E (fun h12=>?_) (fun h12=>?_)<;>simp only [go_sem]
 ·try simp only [go_sem]
  refine ag E (c1) rfl rfl (by simp) ?_
  rintro _ rfl
  simp only [go_sem]
  subst hb
  rw [if_pos (by omega)]
 refine ah E (fun h13=>?_) (fun h13=>?_)<;>simp only [go_sem]
 ·refine ag E (c2) rfl rfl (by simp) ?_
  rintro _ rfl
  simp only [go_sem]
  subst hb
  rw [if_neg (by omega),if_pos h13]
 ·subst hb
  rw [if_neg (by omega),if_neg h13,kH]
theorem Fl {G} (k:Int) (f:EF) (h1:f.nm.length≤BIG) (h2:f.var.length≤BIG):HP Tryz.prog G 159 [i64 k,fD f] (fun r=>r=.d (.bool (fL k f))):=by
 generalize hb:fL k f=b
 unfold fL at hb
 have c1:=rI (G:=G) f.nm h1
 have c2:=wu (G:=G) f.nm h1
 have c3:=rI (G:=G) f.var h2
 generalize dQ f.nm=x at c1 hb
 generalize kl f.nm=y at c2 hb
 generalize dQ f.var=z at c3 hb
 unfold fD
 refine al Tryz.func159 rfl (by decide +kernel) (by simp [Tryz.ntmps159]) (veil fun E=>?_)
 simp only [go_sem]
 refine ah E (fun h=>?_) (fun h=>?_)<;>simp only [go_sem]
 ·refine ag E (c1) rfl rfl (by simp) ?_
  rintro _ rfl
  simp only [go_sem]
  repeat (first
   | (apply b6 E;(· simp only [go_sem]);(· intro h;(try simp only [bq] at h);simp only [↓h,go_sem];rfl);simp only [go_sem])
   | (apply ba E;(· simp only [go_sem]);(· intro h;(try simp only [bq] at h);simp only [↓h,go_sem];rfl);(· intro h;(try simp only [bq] at h);simp only [↓h,go_sem];rfl);simp only [go_sem])
   | (apply a8 E;(· simp only [go_sem]);(· rfl);(· intro h h';(try simp only [bq] at h h');simp only [↓h,↓h',go_sem];rfl);simp only [go_sem])
   | (apply aI E;(· simp only [go_sem]);(· rfl);(· intro h h';(try simp only [bq] at h h');simp only [↓h,↓h',go_sem];rfl);(· intro h h';(try simp only [bq] at h h');simp only [↓h,↓h',go_sem];rfl);simp only [go_sem])
   | (apply bV E;(· decide);simp only [go_sem]))
  rw [if_pos h,← kH] at hb
  rw [hb]
 ·refine ag E (c2) rfl rfl (by simp) ?_
  rintro _ rfl
  simp only [go_sem]
  repeat (first
   | (apply b6 E;(· simp only [go_sem]);(· intro h;(try simp only [bq] at h);simp only [↓h,go_sem];rfl);simp only [go_sem])
   | (apply ba E;(· simp only [go_sem]);(· intro h;(try simp only [bq] at h);simp only [↓h,go_sem];rfl);(· intro h;(try simp only [bq] at h);simp only [↓h,go_sem];rfl);simp only [go_sem])
   | (apply a8 E;(· simp only [go_sem]);(· rfl);(· intro h h';(try simp only [bq] at h h');simp only [↓h,↓h',go_sem];rfl);simp only [go_sem])
   | (apply aI E;(· simp only [go_sem]);(· rfl);(· intro h h';(try simp only [bq] at h h');simp only [↓h,↓h',go_sem];rfl);(· intro h h';(try simp only [bq] at h h');simp only [↓h,↓h',go_sem];rfl);simp only [go_sem])
   | (apply bV E;(· decide);simp only [go_sem]))
  (first | (apply iE E;(· simp only [go_sem]);(· intro h hk;(try simp only [bq] at h);refine ag E (c3) rfl (by simp only [↓h,go_sem]<;>rfl) (by simp) ?_;rintro _ rfl;exact hk);simp only [go_sem]) | (apply fI E;(· simp only [go_sem]);(· rfl);(· intro h h' hk;(try simp only [bq] at h h');refine ag E (c3) rfl (by simp only [↓h,↓h',go_sem]<;>rfl) (by simp) ?_;rintro _ rfl;exact hk);simp only [go_sem]))
  repeat (first
   | (apply b6 E;(· simp only [go_sem]);(· intro h;(try simp only [bq] at h);simp only [↓h,go_sem];rfl);simp only [go_sem])
   | (apply ba E;(· simp only [go_sem]);(· intro h;(try simp only [bq] at h);simp only [↓h,go_sem];rfl);(· intro h;(try simp only [bq] at h);simp only [↓h,go_sem];rfl);simp only [go_sem])
   | (apply a8 E;(· simp only [go_sem]);(· rfl);(· intro h h';(try simp only [bq] at h h');simp only [↓h,↓h',go_sem];rfl);simp only [go_sem])
   | (apply aI E;(· simp only [go_sem]);(· rfl);(· intro h h';(try simp only [bq] at h h');simp only [↓h,↓h',go_sem];rfl);(· intro h h';(try simp only [bq] at h h');simp only [↓h,↓h',go_sem];rfl);simp only [go_sem])
   | (apply bV E;(· decide);simp only [go_sem]))
  rw [if_neg h] at hb
  rw [hb]
theorem Dl {G} (n:EN):HP Tryz.prog G 107 [enD n] (fun r=>r=.d (.bool (dY n))):=by
 generalize hb:dY n=b
 unfold dY at hb
 simp only [← kH] at hb
 unfold enD efD
 refine al Tryz.func107 rfl (by decide +kernel) (by simp [Tryz.ntmps107]) (veil fun E=>?_)
 simp only [go_sem]
 refine ah E (fun h1=>?_) (fun h1=>?_)<;>simp only [go_sem]
 ·rw [if_pos h1] at hb
  rw [hb]
 rw [if_neg h1] at hb
 refine ah E (fun h2=>?_) (fun h2=>?_)<;>simp only [go_sem]
 ·rw [if_pos h2] at hb
  repeat (first
   | (apply b6 E;(· simp only [go_sem]);(· intro h;(try simp only [bq] at h);simp only [↓h,go_sem];rfl);simp only [go_sem])
   | (apply ba E;(· simp only [go_sem]);(· intro h;(try simp only [bq] at h);simp only [↓h,go_sem];rfl);(· intro h;(try simp only [bq] at h);simp only [↓h,go_sem];rfl);simp only [go_sem])
   | (apply a8 E;(· simp only [go_sem]);(· rfl);(· intro h h';(try simp only [bq] at h h');simp only [↓h,↓h',go_sem];rfl);simp only [go_sem])
   | (apply aI E;(· simp only [go_sem]);(· rfl);(· intro h h';(try simp only [bq] at h h');simp only [↓h,↓h',go_sem];rfl);(· intro h h';(try simp only [bq] at h h');simp only [↓h,↓h',go_sem];rfl);simp only [go_sem])
   | (apply bV E;(· decide);simp only [go_sem]))
  rw [hb]
 rw [if_neg h2] at hb
 refine ah E (fun h3=>?_) (fun h3=>?_)<;>simp only [go_sem]
 ·rw [if_pos h3] at hb
  repeat (first
   | (apply b6 E;(· simp only [go_sem]);(· intro h;(try simp only [bq] at h);simp only [↓h,go_sem];rfl);simp only [go_sem])
   | (apply ba E;(· simp only [go_sem]);(· intro h;(try simp only [bq] at h);simp only [↓h,go_sem];rfl);(· intro h;(try simp only [bq] at h);simp only [↓h,go_sem];rfl);simp only [go_sem])
   | (apply a8 E;(· simp only [go_sem]);(· rfl);(· intro h h';(try simp only [bq] at h h');simp only [↓h,↓h',go_sem];rfl);simp only [go_sem])
   | (apply aI E;(· simp only [go_sem]);(· rfl);(· intro h h';(try simp only [bq] at h h');simp only [↓h,↓h',go_sem];rfl);(· intro h h';(try simp only [bq] at h h');simp only [↓h,↓h',go_sem];rfl);simp only [go_sem])
   | (apply bV E;(· decide);simp only [go_sem]))
  rw [hb]
 rw [if_neg h3] at hb
 refine ah E (fun h4=>?_) (fun h4=>?_)<;>simp only [go_sem]
 ·rw [if_pos h4] at hb
  repeat (first
   | (apply b6 E;(· simp only [go_sem]);(· intro h;(try simp only [bq] at h);simp only [↓h,go_sem];rfl);simp only [go_sem])
   | (apply ba E;(· simp only [go_sem]);(· intro h;(try simp only [bq] at h);simp only [↓h,go_sem];rfl);(· intro h;(try simp only [bq] at h);simp only [↓h,go_sem];rfl);simp only [go_sem])
   | (apply a8 E;(· simp only [go_sem]);(· rfl);(· intro h h';(try simp only [bq] at h h');simp only [↓h,↓h',go_sem];rfl);simp only [go_sem])
   | (apply aI E;(· simp only [go_sem]);(· rfl);(· intro h h';(try simp only [bq] at h h');simp only [↓h,↓h',go_sem];rfl);(· intro h h';(try simp only [bq] at h h');simp only [↓h,↓h',go_sem];rfl);simp only [go_sem])
   | (apply bV E;(· decide);simp only [go_sem]))
  rw [← hb,show decide ((n.s.length:Int)≤200)=decide (n.s.length≤200) from decide_eq_decide.2 (by omega)]
 rw [if_neg h4] at hb
 repeat (first
  | (apply b6 E;(· simp only [go_sem]);(· intro h;(try simp only [bq] at h);simp only [↓h,go_sem];rfl);simp only [go_sem])
  | (apply ba E;(· simp only [go_sem]);(· intro h;(try simp only [bq] at h);simp only [↓h,go_sem];rfl);(· intro h;(try simp only [bq] at h);simp only [↓h,go_sem];rfl);simp only [go_sem])
  | (apply a8 E;(· simp only [go_sem]);(· rfl);(· intro h h';(try simp only [bq] at h h');simp only [↓h,↓h',go_sem];rfl);simp only [go_sem])
  | (apply aI E;(· simp only [go_sem]);(· rfl);(· intro h h';(try simp only [bq] at h h');simp only [↓h,↓h',go_sem];rfl);(· intro h h';(try simp only [bq] at h h');simp only [↓h,↓h',go_sem];rfl);simp only [go_sem])
  | (apply bV E;(· decide);simp only [go_sem]))
 rw [hb]
theorem ql {p:EF→Bool} {l:List EF} {i:Nat} (h:i<l.length) (ha:(l.take i).all p=true) (hb:p l[i]=true):(l.take (i+1)).all p=true:=by
 rw [List.take_succ_eq_append_getElem h,List.all_append,ha]
 simp [hb]
theorem rP {l:List EF} {i:Nat} (h:i<l.length):(l.map fD).getD i .nilp=.agg [.str l[i].nm,.str l[i].var,i64 l[i].to]:=by simp [h,fD]
theorem len_nil (l:List EF):decide ((l.length:Int)=0)=l.isEmpty:=by cases l<;>simp<;>omega
theorem DC {G} (n:EN) (h:dc BIG n):HP Tryz.prog G 108 [enD n] (fun r=>r=.d (.bool (bY n))):=by
 generalize hb:bY n=b
 unfold bY at hb
 have hl:=h.l
 unfold enD efD
 refine al Tryz.func108 rfl (by decide +kernel) (by simp [Tryz.ntmps108]) (veil fun E=>?_)
 simp only [go_sem]
 refine ag E (m0 n.k) rfl rfl (by simp) ?_
 rintro _ rfl
 simp only [go_sem]
 refine aB E (fun h1=>?_) (fun h1=>?_)<;>simp only [go_sem]
 ·rw [if_neg (by simpa using h1),← len_nil] at hb
  rw [hb]
 rw [if_pos (by simpa using h1)] at hb
 refine vG E 3 98 none rfl (by rw [aa];decide) ?_
 simp only [go_sem]
 refine az E (X:={ i:Nat // i≤n.l.length∧(n.l.take i).all (fL n.k)=true }) (fun x=>[(1,.bx [1] 0),(3,.vw [98] 0 x.1),(17,.d (.sl (some 3) (n.l.map fD))),(18,.d (i64 n.l.length)),(19,.d (i64 x.1))])
  (fun x=>[([1],.box [.d (i64 n.k),.d (i64 n.a),.d (i64 n.b),.d (i64 n.c),.d (i64 n.n),.d (.str n.name),.d (.str n.s),.d (.sl (some 3) (n.l.map fD)),.d (i64 n.pos)]),([98],.arr none ((n.l.take x.1).map fun f=>.str f.nm))]) [1,98] (fun x=>n.l.length-x.1) ⟨0,by simp⟩ id ?_ ?_
 ·simp only [go_sem]
  all_goals rfl
 rintro ⟨i,hi,hall⟩ E0
 refine aC E0 fun Q' hQ E'=>?_
 simp only at hi hall ⊢
 simp only [go_sem]
 refine ah E' (fun g1=>?_) (fun g1=>?_)<;>simp only [go_sem]
 ·have hi':i<n.l.length:=by omega
  refine ⟨⟨by omega,by omega⟩,?_⟩
  rw [rP hi']
  simp only [go_sem]
  obtain ⟨q1,q2⟩:=h.f _ (List.getElem_mem hi')
  refine ag E' (Fl n.k n.l[i] q1 q2) rfl rfl (by simp) ?_
  rintro _ rfl
  simp only [go_sem]
  refine aB E' (fun g2=>?_) (fun g2=>?_)<;>simp only [go_sem]
  ·rw [hQ]
   simp only [go_sem]
   have g2':fL n.k n.l[i]=false:=by simpa using g2
   have:n.l.all (fL n.k)=false:=List.all_eq_false.2 ⟨_,List.getElem_mem hi',by rw [g2'];decide⟩
   rw [← hb,this]
   rfl
  ·have g2':fL n.k n.l[i]=true:=by simpa using g2
   refine ⟨by omega,?_⟩
   rw [hQ]
   simp only [go_sem]
   refine ⟨⟨i+1,by omega,ql hi' hall g2'⟩,by show n.l.length-(i+1)<_;omega,tau [([98],[32])],?_⟩
   rw [ai ⟨by omega,by omega⟩]
   rw [show List.take i (List.map (fun f:EF=>D.str f.nm) (List.take i n.l))++[.str n.l[i].nm]=(n.l.take (i+1)).map fun f=>.str f.nm by
    rw [List.take_of_length_le (by simp;omega),List.take_succ_eq_append_getElem hi',List.map_append];rfl]
   simp only [go_sem]
   all_goals rfl
 ·rw [hQ]
  have h3:i=n.l.length:=by omega
  subst h3
  rw [List.take_length] at *
  rw [hall,Bool.true_and] at hb
  simp only [go_sem]
  refine ah E (fun k1=>?_) (fun k1=>?_)<;>simp only [go_sem]
  ·rw [if_pos k1] at hb
   refine an E (fun k2=>?_) (fun k2=>?_)<;>simp only [go_sem]
   ·refine an E (fun k3=>?_) (fun k3=>?_)<;>simp only [go_sem]
    ·have ht:=wb (G:=G) (n.l.map (·.nm)) (by rw [List.length_map];exact hl)
     unfold strs at ht
     rw [List.map_map,show (D.str ∘ fun f:EF=>f.nm)=fun f=>D.str f.nm from rfl] at ht
     rw [ij]
     simp only [go_sem]
     refine mU E [([98],none,n.l.map fun f=>.str f.nm)] ht (by rintro _ rfl;rfl) (by simp only [go_sem]) rfl (by simp only [go_sem]) (by simp) ?_
     rintro _ rfl
     simp only [go_sem]
     rw [← hb,decide_eq_true (by omega),decide_eq_true (by omega)]
     simp [twice]
    ·rw [← hb,decide_eq_false (p:=n.l.length≤30) (by omega),Bool.and_false,Bool.false_and]
   ·rw [← hb,decide_eq_false (by omega),Bool.false_and,Bool.false_and]
  ·rw [if_neg k1] at hb
   refine an E (fun k2=>?_) (fun k2=>?_)<;>simp only [go_sem]
   ·refine an E (fun k3=>?_) (fun k3=>?_)<;>simp only [go_sem]
    ·have ht:=wb (G:=G) (n.l.map (·.nm)) (by rw [List.length_map];exact hl)
     unfold strs at ht
     rw [List.map_map,show (D.str ∘ fun f:EF=>f.nm)=fun f=>D.str f.nm from rfl] at ht
     rw [ij]
     simp only [go_sem]
     refine mU E [([98],none,n.l.map fun f=>.str f.nm)] ht (by rintro _ rfl;rfl) (by simp only [go_sem]) rfl (by simp only [go_sem]) (by simp) ?_
     rintro _ rfl
     simp only [go_sem]
     rw [← hb,decide_eq_true (by omega),decide_eq_true (by omega)]
     simp [twice]
    ·rw [← hb,decide_eq_false (p:=n.l.length≤30) (by omega),Bool.and_false,Bool.false_and]
   ·rw [← hb,decide_eq_false (by omega),Bool.false_and,Bool.false_and]
end Go.Proofs.YtejpnabbmgpmaaaGreat

namespace Go.Proofs.YtejpnabbmgpmaaaGreat
open Go.Ab
theorem mV {G} (c:UInt8):HP Tryz.prog G 230 [u8 c] (fun r=>r=.d (.bool (sm c))):=by
 refine al Tryz.func230 rfl (by decide +kernel) (by simp [Tryz.ntmps230]) (veil fun E=>?_)
 unfold u8
 simp only [go_sem]
 refine an E (fun h1=>?_) (fun h1=>?_)<;>simp only [go_sem]
 ·refine an E (fun h2=>?_) (fun h2=>?_)<;>simp only [go_sem]
  ·simp [sm,smZ,h1,h2]
  ·simp [sm,smZ,h1,h2]
 ·simp [sm,smZ,h1]
theorem mY {G} (c:UInt8):HP Tryz.prog G 231 [u8 c] (fun r=>r=.d (.bool (gr c))):=by
 refine al Tryz.func231 rfl (by decide +kernel) (by simp [Tryz.ntmps231]) (veil fun E=>?_)
 unfold u8
 simp only [go_sem]
 refine an E (fun h1=>?_) (fun h1=>?_)<;>simp only [go_sem]
 ·simp [gr,grZ,h1]
 ·simp [gr,grZ,h1]
theorem ng {G} (l:List UInt8) (hl:l.length≤9223372036854775807):HP Tryz.prog G 168 [.str l] (fun r=>r=.d (i64 (bH l))):=by
 refine al Tryz.func168 rfl (by decide +kernel) (by simp [Tryz.ntmps168]) (veil fun E=>?_)
 simp only [go_sem]
 refine an E (fun h0=>?_) (fun h0=>?_)<;>simp only [go_sem]
 ·have:l=[]:=List.length_eq_zero_iff.1 (by omega)
  subst this;rfl
 have h0:1≤l.length:=by omega
 refine ⟨by omega,?_⟩
 refine ag E (mV (l.getD 0 0)) rfl rfl (by simp) ?_
 rintro _ rfl
 simp only [go_sem]
 refine bU E (fun h1=>?_) (fun h1=>?_)<;>simp only [go_sem]
 ·have h1:sm (l.getD 0 0)=false:=by simpa using h1
  refine ⟨by omega,?_⟩
  refine ag E (mY (l.getD 0 0)) rfl rfl (by simp) ?_
  rintro _ rfl
  simp only [go_sem]
  refine aB E (fun h2=>?_) (fun h2=>?_)<;>simp only [go_sem]
  ·have h2:gr (l.getD 0 0)=false:=by simpa using h2
   rw [dC h0,h1,h2];rfl
  ·have h2:gr (l.getD 0 0)=true:=by simpa using h2
   have hsg:(sm (l.getD 0 0) || gr (l.getD 0 0))=true:=by rw [h2,Bool.or_true]
   refine cq E (X:={ i:Nat // i≤l.length∧i+wlen (l.drop i)=wlen (l.drop 1)+1 }) (fun x=>[(0,.d (.str l)),(3,.d (i64 x.1))]) (fun x=>l.length-x.1) rfl ⟨1,h0,by omega⟩ ?_ ?_
   ·simp only [go_sem]
    all_goals rfl
   rintro ⟨i,hi,hw⟩ E'
   simp only [go_sem]
   have hn:bH l=wlen (l.drop 1)+1:=by rw [dC h0,hsg,if_pos rfl]
   refine an E' (fun h3=>?_) (fun h3=>?_)<;>simp only [go_sem]
   ·have hi':i<l.length:=by omega
    have hwd:=jN hi'
    have yes:mo (l.getD i 0)=true→∃ y:{ i:Nat // i≤l.length∧i+wlen (l.drop i)=wlen (l.drop 1)+1 },l.length-y.1<l.length-i∧AV.d (.int .i64 (w64 ((i:Int)+1)))=AV.d (i64 y.1):=fun h4=>by
     rw [h4,if_pos rfl] at hwd
     refine ⟨⟨i+1,by omega,by omega⟩,by show l.length-(i+1)<_;omega,?_⟩
     rw [ai ⟨by omega,by omega⟩];rfl
    have no:mo (l.getD i 0)=false→AV.d (i64 (i:Int))=AV.d (i64 (bH l:Nat)):=fun h4=>by
     rw [h4,if_neg (by simp)] at hwd
     rw [hn]
     exact congrArg (fun n:Nat=>AV.d (i64 (n:Int))) (by omega)
    refine ⟨⟨by omega,by omega⟩,?_⟩
    refine ag E' (mV (l.getD i 0)) rfl rfl (by simp) ?_
    rintro _ rfl
    simp only [go_sem]
    refine bU E' (fun h4=>?_) (fun h4=>?_)<;>simp only [go_sem]
    ·exact yes (by simp only [mo,h4,Bool.true_or])
    refine ⟨⟨by omega,by omega⟩,?_⟩
    refine ag E' (mY (l.getD i 0)) rfl rfl (by simp) ?_
    rintro _ rfl
    simp only [go_sem]
    refine bU E' (fun h5=>?_) (fun h5=>?_)<;>simp only [go_sem]
    ·exact yes (by simp only [mo,h5,Bool.or_true,Bool.true_or])
    refine ⟨⟨by omega,by omega⟩,?_⟩
    refine an E' (fun h6=>?_) (fun h6=>?_)<;>simp only [go_sem]
    ·refine ⟨⟨by omega,by omega⟩,?_⟩
     refine ah E' (fun h7=>?_) (fun h7=>?_)<;>simp only [go_sem]
     ·exact yes (by simp only [mo,h4,h5,diZ];rw [decide_eq_true h6,decide_eq_true h7];rfl)
     ·exact no (by simp only [mo,h4,h5,diZ];rw [decide_eq_false h7];simp)
    ·exact no (by simp only [mo,h4,h5,diZ];rw [decide_eq_false h6];simp)
   ·have hil:i=l.length:=by omega
    subst hil
    rw [lB] at hw
    rw [hn]
    exact congrArg (fun n:Nat=>AV.d (i64 (n:Int))) (by omega)
 ·have h1:sm (l.getD 0 0)=true:=by simpa using h1
  have hsg:(sm (l.getD 0 0) || gr (l.getD 0 0))=true:=by rw [h1,Bool.true_or]
  refine cq E (X:={ i:Nat // i≤l.length∧i+wlen (l.drop i)=wlen (l.drop 1)+1 }) (fun x=>[(0,.d (.str l)),(3,.d (i64 x.1))]) (fun x=>l.length-x.1) rfl ⟨1,h0,by omega⟩ ?_ ?_
  ·simp only [go_sem]
   all_goals rfl
  rintro ⟨i,hi,hw⟩ E'
  simp only [go_sem]
  have hn:bH l=wlen (l.drop 1)+1:=by rw [dC h0,hsg,if_pos rfl]
  refine an E' (fun h3=>?_) (fun h3=>?_)<;>simp only [go_sem]
  ·have hi':i<l.length:=by omega
   have hwd:=jN hi'
   have yes:mo (l.getD i 0)=true→∃ y:{ i:Nat // i≤l.length∧i+wlen (l.drop i)=wlen (l.drop 1)+1 },l.length-y.1<l.length-i∧AV.d (.int .i64 (w64 ((i:Int)+1)))=AV.d (i64 y.1):=fun h4=>by
    rw [h4,if_pos rfl] at hwd
    refine ⟨⟨i+1,by omega,by omega⟩,by show l.length-(i+1)<_;omega,?_⟩
    rw [ai ⟨by omega,by omega⟩];rfl
   have no:mo (l.getD i 0)=false→AV.d (i64 (i:Int))=AV.d (i64 (bH l:Nat)):=fun h4=>by
    rw [h4,if_neg (by simp)] at hwd
    rw [hn]
    exact congrArg (fun n:Nat=>AV.d (i64 (n:Int))) (by omega)
   refine ⟨⟨by omega,by omega⟩,?_⟩
   refine ag E' (mV (l.getD i 0)) rfl rfl (by simp) ?_
   rintro _ rfl
   simp only [go_sem]
   refine bU E' (fun h4=>?_) (fun h4=>?_)<;>simp only [go_sem]
   ·exact yes (by simp only [mo,h4,Bool.true_or])
   refine ⟨⟨by omega,by omega⟩,?_⟩
   refine ag E' (mY (l.getD i 0)) rfl rfl (by simp) ?_
   rintro _ rfl
   simp only [go_sem]
   refine bU E' (fun h5=>?_) (fun h5=>?_)<;>simp only [go_sem]
   ·exact yes (by simp only [mo,h5,Bool.or_true,Bool.true_or])
   refine ⟨⟨by omega,by omega⟩,?_⟩
   refine an E' (fun h6=>?_) (fun h6=>?_)<;>simp only [go_sem]
   ·refine ⟨⟨by omega,by omega⟩,?_⟩
    refine ah E' (fun h7=>?_) (fun h7=>?_)<;>simp only [go_sem]
    ·exact yes (by simp only [mo,h4,h5,diZ];rw [decide_eq_true h6,decide_eq_true h7];rfl)
    ·exact no (by simp only [mo,h4,h5,diZ];rw [decide_eq_false h7];simp)
   ·exact no (by simp only [mo,h4,h5,diZ];rw [decide_eq_false h6];simp)
  ·have hil:i=l.length:=by omega
   subst hil
   rw [lB] at hw
   rw [hn]
   exact congrArg (fun n:Nat=>AV.d (i64 (n:Int))) (by omega)
theorem Di {G}:HP Tryz.prog G 234 [] (fun r=>r=.d (strs kwB)):=by
 refine aw Tryz.func234 rfl (by decide +kernel) (by simp [Tryz.ntmps234]) (veil fun E=>?_)
 simp only [go_sem]
 refine ⟨[([1],none,kwB.map .str)],?_⟩
 simp only [go_sem]
 refine ⟨rfl,?_⟩
 rfl
theorem qU {G} (s:List UInt8) (l:List (List UInt8)) (hl:l.length≤9223372036854775807):HP Tryz.prog G 233 [.str s,strs l] (fun r=>r=.d (.bool (decide (s∈l)))):=by
 refine al Tryz.func233 rfl (by decide +kernel) (by simp [Tryz.ntmps233]) (veil fun E=>?_)
 unfold strs
 simp only [go_sem]
 refine cq E (X:={ i:Nat // i≤l.length∧s ∉ l.take i }) (fun x=>[(0,.d (.str s)),(1,.d (.sl none (l.map .str))),(5,.d (i64 x.1))]) (fun x=>l.length-x.1) rfl ⟨0,by simp,by simp⟩ ?_ ?_
 ·simp only [go_sem]
  all_goals rfl
 rintro ⟨i,hi,hm⟩ E'
 simp only [go_sem]
 refine ah E' (fun h6=>?_) (fun h6=>?_)<;>simp only [go_sem]
 ·have hi':i<l.length:=by omega
  refine ⟨⟨by omega,by omega⟩,?_⟩
  rw [lj hi']
  simp only [go_sem]
  refine aB E' (fun h7=>?_) (fun h7=>?_)<;>simp only [go_sem]
  ·have h7:l.getD i []=s:=by simpa using h7
   have:s∈l:=by
    rw [← h7]
    simp [hi']
   rw [decide_eq_true this]
  ·have h7:l.getD i []≠s:=by simpa using h7
   refine ⟨⟨i+1,by omega,uA hi' hm h7⟩,by show l.length-(i+1)<_;omega,?_⟩
   rw [ai ⟨by omega,by omega⟩];rfl
 ·have hil:i=l.length:=by omega
  subst hil
  rw [List.take_length] at hm
  rw [decide_eq_false hm]
theorem xW {G} (s:List UInt8):HP Tryz.prog G 169 [.str s] (fun r=>r=.d (.bool (Cg s))):=by
 refine al Tryz.func169 rfl (by decide +kernel) (by simp [Tryz.ntmps169]) (veil fun E=>?_)
 simp only [go_sem]
 refine ag E Di rfl rfl (by simp) ?_
 rintro _ rfl
 simp only [go_sem]
 refine ag E (qU s kwB FV) rfl rfl (by simp) ?_
 rintro _ rfl
 simp only [go_sem]
 rfl
theorem qS {G} (s:List UInt8) (hl:s.length≤9223372036854775807):HP Tryz.prog G 165 [.str s] (fun r=>r=.d (.bool (dQ s))):=by
 have hw:¬ (0<s.length∧s.length≤20∧bH s=s.length)→cz s=false:=fun h=>by
  cases hw:cz s with
  | false=>rfl
  | true =>
    refine absurd ?_ h
    simp only [cz,Bool.and_eq_true,decide_eq_true_eq] at hw
    exact ⟨lC (by simp only [cz,Bool.and_eq_true,decide_eq_true_eq];exact hw),hw.1.2,hw.2⟩
 have hwy:0<s.length→s.length≤20→bH s=s.length→cz s=true:=fun h1 h2 h3=>by
  simp only [cz,Bool.and_eq_true,decide_eq_true_eq]
  refine ⟨⟨?_,h2⟩,h3⟩
  cases s with
  | nil=>simp at h1
  | cons c r=>rfl
 refine al Tryz.func165 rfl (by decide +kernel) (by simp [Tryz.ntmps165]) (veil fun E=>?_)
 simp only [go_sem]
 refine an E (fun h1=>?_) (fun h1=>?_)<;>simp only [go_sem]
 ·refine an E (fun h2=>?_) (fun h2=>?_)<;>simp only [go_sem]
  ·refine ag E (ng s hl) rfl rfl (by simp) ?_
   rintro _ rfl
   simp only [go_sem]
   refine an E (fun h3=>?_) (fun h3=>?_)<;>simp only [go_sem]
   ·have hwt:=hwy (by omega) (by omega) (by omega)
    refine ⟨by omega,?_⟩
    refine ag E (mV (s.getD 0 0)) rfl rfl (by simp) ?_
    rintro _ rfl
    simp only [go_sem]
    refine bU E (fun h4=>?_) (fun h4=>?_)<;>simp only [go_sem]
    ·refine ag E (xW s) rfl rfl (by simp) ?_
     rintro _ rfl
     simp only [go_sem]
     simp only [dQ,hwt,h4,Bool.true_and]
    ·simp only [dQ,hwt,h4,Bool.true_and,Bool.false_and]
   ·simp only [dQ,hw (by omega),Bool.false_and]
  ·simp only [dQ,hw (by omega),Bool.false_and]
 ·simp only [dQ,hw (by omega),Bool.false_and]
theorem xn {G} (s:List UInt8) (hl:s.length≤9223372036854775807):HP Tryz.prog G 166 [.str s] (fun r=>r=.d (.bool (kl s))):=by
 have hw:¬ (0<s.length∧s.length≤20∧bH s=s.length)→cz s=false:=fun h=>by
  cases hw:cz s with
  | false=>rfl
  | true =>
    refine absurd ?_ h
    simp only [cz,Bool.and_eq_true,decide_eq_true_eq] at hw
    exact ⟨lC (by simp only [cz,Bool.and_eq_true,decide_eq_true_eq];exact hw),hw.1.2,hw.2⟩
 have hwy:0<s.length→s.length≤20→bH s=s.length→cz s=true:=fun h1 h2 h3=>by
  simp only [cz,Bool.and_eq_true,decide_eq_true_eq]
  refine ⟨⟨?_,h2⟩,h3⟩
  cases s with
  | nil=>simp at h1
  | cons c r=>rfl
 refine al Tryz.func166 rfl (by decide +kernel) (by simp [Tryz.ntmps166]) (veil fun E=>?_)
 simp only [go_sem]
 refine an E (fun h1=>?_) (fun h1=>?_)<;>simp only [go_sem]
 ·refine an E (fun h2=>?_) (fun h2=>?_)<;>simp only [go_sem]
  ·refine ag E (ng s hl) rfl rfl (by simp) ?_
   rintro _ rfl
   simp only [go_sem]
   refine an E (fun h3=>?_) (fun h3=>?_)<;>simp only [go_sem]
   ·have hwt:=hwy (by omega) (by omega) (by omega)
    refine ⟨by omega,?_⟩
    refine ag E (mY (s.getD 0 0)) rfl rfl (by simp) ?_
    rintro _ rfl
    simp only [go_sem]
    simp only [kl,hwt,Bool.true_and]
   ·simp only [kl,hw (by omega),Bool.false_and]
  ·simp only [kl,hw (by omega),Bool.false_and]
 ·simp only [kl,hw (by omega),Bool.false_and]
theorem Ff {G} (l:List (List UInt8)) (hl:l.length≤1000000):HP Tryz.prog G 232 [strs l] (fun r=>r=.d (.bool (twice l))):=by
 refine al Tryz.func232 rfl (by decide +kernel) (by simp [Tryz.ntmps232]) (veil fun E=>?_)
 unfold strs
 simp only [go_sem]
 refine cq E (X:={ i:Nat // i≤l.length∧(l.take i).Nodup }) (fun x=>[(0,.d (.sl none (l.map .str))),(3,.d (i64 x.1))]) (fun x=>l.length-x.1) rfl ⟨0,by simp⟩ ?_ ?_
 ·simp only [go_sem]
  all_goals rfl
 rintro ⟨i,hi,hn⟩ E'
 simp only [go_sem]
 refine ah E' (fun h1=>?_) (fun h1=>?_)<;>simp only [go_sem]
 ·have hi':i<l.length:=by omega
  have hc:=qU (G:=G) (l.getD i []) (l.take i) (by simp only [List.length_take];omega)
  unfold strs at hc
  rw [List.map_take] at hc
  refine ak mixed E' fun X=>?_
  simp only [go_sem]
  refine ⟨⟨by omega,by omega⟩,?_⟩
  rw [lj hi']
  simp only [go_sem]
  refine ⟨⟨by omega,by omega⟩,?_⟩
  refine bK X hc rfl (by first | rfl | (simp only [go_sem];done) | (simp;done)) (by simp) ?_
  simp only [go_sem]
  refine ⟨by decide +kernel,?_⟩
  refine ah E' (fun h2=>?_) (fun h2=>?_)<;>simp only [go_sem]
  ·rw [Bj hi' h2]
  ·refine ⟨⟨i+1,by omega,xS hi' hn h2⟩,by show l.length-(i+1)<_;omega,by rw [ai ⟨by omega,by omega⟩];rfl⟩
 ·have hil:i=l.length:=by omega
  subst hil
  rw [List.take_length] at hn
  simp [twice,hn]
end Go.Proofs.YtejpnabbmgpmaaaGreat

namespace Go.Proofs.YtejpnabbmgpmaaaGreat
open Go.Ab
theorem xA (c:UInt8):Lib.indexByte dv c=if 48≤c.toNat∧c.toNat≤57 then (c.toNat:Int)-48 else if 97≤c.toNat∧c.toNat≤102 then (c.toNat:Int)-97+10 else -1:=by
 have key:∀ n,n<256→Lib.indexByte dv (UInt8.ofNat n)=if 48≤n∧n≤57 then (n:Int)-48 else if 97≤n∧n≤102 then (n:Int)-97+10 else -1:=by decide +kernel
 have:=key c.toNat c.toNat_lt
 rwa [UInt8.ofNat_toNat] at this
theorem wrap_u8 {n:Int} (h:0≤n∧n≤255):IntKind.u8.wrap n=n:=by
 show IntKind.wrap .u8 n=n
 unfold IntKind.wrap
 simp [IntKind.bits,IntKind.signed]
 omega
theorem m8 {G} (c:UInt8):HP Tryz.prog G 235 [u8 c] (fun r=>r=.d (i64 (Lib.indexByte dv c))):=by
 have hv:=xA c
 generalize Lib.indexByte dv c=z at *
 have hc:=c.toNat_lt
 unfold u8
 refine al Tryz.func235 rfl (by decide +kernel) (by simp [Tryz.ntmps235]) (veil fun E=>?_)
 simp only [go_sem]
 repeat (first
  | (apply b6 E;(· simp only [go_sem]);(· intro h;(try simp only [bq] at h);simp only [↓h,go_sem];rfl);simp only [go_sem])
  | (apply ba E;(· simp only [go_sem]);(· intro h;(try simp only [bq] at h);simp only [↓h,go_sem];rfl);(· intro h;(try simp only [bq] at h);simp only [↓h,go_sem];rfl);simp only [go_sem])
  | (apply a8 E;(· simp only [go_sem]);(· rfl);(· intro h h';(try simp only [bq] at h h');simp only [↓h,↓h',go_sem];rfl);simp only [go_sem])
  | (apply aI E;(· simp only [go_sem]);(· rfl);(· intro h h';(try simp only [bq] at h h');simp only [↓h,↓h',go_sem];rfl);(· intro h h';(try simp only [bq] at h h');simp only [↓h,↓h',go_sem];rfl);simp only [go_sem])
  | (apply bV E;(· decide);simp only [go_sem]))
 refine aB E (fun h1=>?_) (fun h1=>?_)<;>simp only [go_sem]
 ·simp only [Bool.and_eq_true,decide_eq_true_eq] at h1
  rw [if_pos (by omega)] at hv
  rw [wrap_u8 (by omega),ai ⟨by omega,by omega⟩,hv]
 ·repeat (first
   | (apply b6 E;(· simp only [go_sem]);(· intro h;(try simp only [bq] at h);simp only [↓h,go_sem];rfl);simp only [go_sem])
   | (apply ba E;(· simp only [go_sem]);(· intro h;(try simp only [bq] at h);simp only [↓h,go_sem];rfl);(· intro h;(try simp only [bq] at h);simp only [↓h,go_sem];rfl);simp only [go_sem])
   | (apply a8 E;(· simp only [go_sem]);(· rfl);(· intro h h';(try simp only [bq] at h h');simp only [↓h,↓h',go_sem];rfl);simp only [go_sem])
   | (apply aI E;(· simp only [go_sem]);(· rfl);(· intro h h';(try simp only [bq] at h h');simp only [↓h,↓h',go_sem];rfl);(· intro h h';(try simp only [bq] at h h');simp only [↓h,↓h',go_sem];rfl);simp only [go_sem])
   | (apply bV E;(· decide);simp only [go_sem]))
  simp only [Bool.and_eq_false_iff,decide_eq_false_iff_not] at h1
  rw [if_neg (by omega)] at hv
  refine aB E (fun h2=>?_) (fun h2=>?_)<;>simp only [go_sem]
  ·simp only [Bool.and_eq_true,decide_eq_true_eq] at h2
   rw [if_pos (by omega)] at hv
   rw [wrap_u8 (by omega),ai (n:=(c.toNat:Int)-97) ⟨by omega,by omega⟩,ai ⟨by omega,by omega⟩,hv]
  ·simp only [Bool.and_eq_false_iff,decide_eq_false_iff_not] at h2
   rw [if_neg (by omega)] at hv
   rw [hv]
theorem j9:∀ (l:List UInt8) (c:UInt8),(Lib.indexByte l c<0↔c ∉ l)∧-1≤Lib.indexByte l c
 | [],c=>by simp [Lib.indexByte]
 | b::l,c=>by
   obtain ⟨h1,h2⟩:=j9 l c
   unfold Lib.indexByte
   by_cases hb:b=c
   ·subst hb
    simp
   ·rw [if_neg (by simpa using hb)]
    by_cases hn:Lib.indexByte l c = -1
    ·rw [if_pos (by simpa using hn)]
     have:=h1.1 (by omega)
     simp [this,Ne.symm hb]
    ·rw [if_neg (by simpa using hn)]
     have:c∈l:=by
      by_cases hm:c∈l
      ·exact hm
      ·have:=h1.2 hm
       omega
     simp [this]
     omega
def sgN (s:List UInt8):Nat:=if bm s [45,62] || bm s [61,61] then 2 else if Lib.indexByte bF (s.getD 0 0)<0 then 0 else 1
set_option maxHeartbeats 1000000 in
theorem EH {G} (s:List UInt8) (h0:1≤s.length) (hl:s.length≤1000000):HP Tryz.prog G 172 [.str s] (fun r=>r=.d (i64 (sgN s))):=by
 generalize hN:sgN s=N
 unfold sgN bm at hN
 obtain ⟨c,hc⟩:∃ c,c=s.getD 0 0:=⟨_,rfl⟩
 rw [← hc] at hN
 have key:∀ (b:Bool),b=((decide (2≤s.length) && (s.take 2 == [45,62])) || (decide (2≤s.length) && (s.take 2 == [61,61])))→(b=true→N=2)∧(b=false→N=if Lib.indexByte bF c<0 then 0 else 1):=fun b hb=>by
  rw [← hN,show ([45,62]:List UInt8).length=2 from rfl,show ([61,61]:List UInt8).length=2 from rfl,← hb]
  cases b<;>simp
 refine al Tryz.func172 rfl (by decide +kernel) (by simp [Tryz.ntmps172]) (veil fun E=>?_)
 simp only [go_sem]
 by_cases h2:2≤s.length
 ·rw [decide_eq_true (show (2:Int)≤(s.length:Int) by omega)]
  simp only [go_sem]
  refine ⟨by omega,?_⟩
  have hk:=key ((s.take 2 == [45,62]) || (s.take 2 == [61,61])) (by rw [decide_eq_true h2,Bool.true_and,Bool.true_and])
  refine bU E (fun g=>?_) (fun g=>?_)<;>simp only [go_sem]
  ·rw [hk.1 (by rw [g];rfl)]
   rfl
  refine ⟨by omega,?_⟩
  refine aB E (fun g'=>?_) (fun g'=>?_)<;>simp only [go_sem]
  ·rw [hk.1 (by rw [g'];simp)]
   rfl
  ·have hN:=hk.2 (by rw [g,g'];rfl)
   refine az E (X:={ i:Nat // i≤20∧c ∉ bF.take i }) (fun x=>[(0,.d (.str s)),(2,.d (i64 0)),(3,.d (.str bF)),(4,.d (i64 x.1))]) (fun _=>[]) [] (fun x=>20-x.1) ⟨0,by omega,by simp⟩ id ?_ ?_
   ·unfold bF
    simp only [go_sem]
    all_goals ((repeat' apply And.intro)<;>first | rfl | trivial)
   rintro ⟨i,hi,hni⟩ E0
   refine aC E0 fun Q' hQ E'=>?_
   simp only at hi hni ⊢
   simp only [go_sem]
   rw [show bF.length=20 from rfl]
   refine ah E' (fun g1=>?_) (fun g1=>?_)<;>simp only [go_sem]
   ·have hi':i<20:=by omega
    refine ak mixed E' fun X=>?_
    simp only [go_sem]
    refine ⟨⟨by omega,by rw [show bF.length=20 from rfl];omega⟩,?_⟩
    refine ⟨by omega,?_⟩
    refine ⟨by decide +kernel,?_⟩
    rw [← hc]
    have hgi:bF.getD i 0∈bF:=by
     rw [List.getD_eq_getElem?_getD,List.getElem?_eq_getElem (show i<bF.length from hi')]
     exact List.getElem_mem _
    refine ah E' (fun g2=>?_) (fun g2=>?_)<;>simp only [go_sem]
    ·have:bF.getD i 0=c:=UInt8.toNat_inj.1 (by omega)
     rw [this] at hgi
     rw [hQ]
     simp only [go_sem]
     rw [hN,if_neg (fun e=>(j9 bF c).1.1 e hgi)]
     rfl
    ·have hne:¬ bF.getD i 0=c:=fun e=>g2 (by rw [e])
     rw [ai (n:=(i:Int)+1) ⟨by omega,by omega⟩,hQ]
     simp only [go_sem]
     refine ⟨⟨i+1,by omega,?_⟩,by show 20-(i+1)<_;omega,id,?_⟩
     ·rw [List.take_succ_eq_append_getElem (show i<bF.length from hi')]
      intro hm
      rcases List.mem_append.1 hm with hm | hm
      ·exact hni hm
      ·refine hne ?_
       rw [List.mem_singleton.1 hm,List.getD_eq_getElem?_getD,List.getElem?_eq_getElem (show i<bF.length from hi')]
       rfl
     ·simp only [go_sem]
      all_goals ((repeat' apply And.intro)<;>first | rfl | trivial)
   ·have h3:i=20:=by omega
    subst h3
    rw [hQ]
    simp only [go_sem]
    have:c ∉ bF:=hni
    rw [hN,if_pos ((j9 bF c).1.2 this)]
    rfl
 ·rw [decide_eq_false (show ¬ (2:Int)≤(s.length:Int) by omega)]
  simp only [go_sem]
  have hN:=(key false (by rw [decide_eq_false h2];rfl)).2 rfl
  refine az E (X:={ i:Nat // i≤20∧c ∉ bF.take i }) (fun x=>[(0,.d (.str s)),(2,.d (i64 0)),(3,.d (.str bF)),(4,.d (i64 x.1))]) (fun _=>[]) [] (fun x=>20-x.1) ⟨0,by omega,by simp⟩ id ?_ ?_
  ·unfold bF
   simp only [go_sem]
   all_goals ((repeat' apply And.intro)<;>first | rfl | trivial)
  rintro ⟨i,hi,hni⟩ E0
  refine aC E0 fun Q' hQ E'=>?_
  simp only at hi hni ⊢
  simp only [go_sem]
  rw [show bF.length=20 from rfl]
  refine ah E' (fun g1=>?_) (fun g1=>?_)<;>simp only [go_sem]
  ·have hi':i<20:=by omega
   refine ak mixed E' fun X=>?_
   simp only [go_sem]
   refine ⟨⟨by omega,by rw [show bF.length=20 from rfl];omega⟩,?_⟩
   refine ⟨by omega,?_⟩
   refine ⟨by decide +kernel,?_⟩
   rw [← hc]
   have hgi:bF.getD i 0∈bF:=by
    rw [List.getD_eq_getElem?_getD,List.getElem?_eq_getElem (show i<bF.length from hi')]
    exact List.getElem_mem _
   refine ah E' (fun g2=>?_) (fun g2=>?_)<;>simp only [go_sem]
   ·have:bF.getD i 0=c:=UInt8.toNat_inj.1 (by omega)
    rw [this] at hgi
    rw [hQ]
    simp only [go_sem]
    rw [hN,if_neg (fun e=>(j9 bF c).1.1 e hgi)]
    rfl
   ·have hne:¬ bF.getD i 0=c:=fun e=>g2 (by rw [e])
    rw [ai (n:=(i:Int)+1) ⟨by omega,by omega⟩,hQ]
    simp only [go_sem]
    refine ⟨⟨i+1,by omega,?_⟩,by show 20-(i+1)<_;omega,id,?_⟩
    ·rw [List.take_succ_eq_append_getElem (show i<bF.length from hi')]
     intro hm
     rcases List.mem_append.1 hm with hm | hm
     ·exact hni hm
     ·refine hne ?_
      rw [List.mem_singleton.1 hm,List.getD_eq_getElem?_getD,List.getElem?_eq_getElem (show i<bF.length from hi')]
      rfl
    ·simp only [go_sem]
     all_goals ((repeat' apply And.intro)<;>first | rfl | trivial)
  ·have h3:i=20:=by omega
   subst h3
   rw [hQ]
   simp only [go_sem]
   have:c ∉ bF:=hni
   rw [hN,if_pos ((j9 bF c).1.2 this)]
   rfl
end Go.Proofs.YtejpnabbmgpmaaaGreat

