/-
  Tokens in plain words: what a text begins with, what is passed over, all tokens of a text. (with the parts that follow it)
-/
import Derived.Test.YtejpnabbmgpmaaaGreatSCD
import Derived.Test.YtejpnabbmgpmaaaGreatSCF
import Derived.Test.YtejpnabbmgpmaaaGreatSCE
import Derived.Test.YtejpnabbmgpmaaaGreatSCC
import Derived.Lib.Bytealg
set_option linter.unusedSimpArgs false
namespace Go.Proofs.YtejpnabbmgpmaaaGreat
open Go.Ab
structure Tok where
 k:Int
 s:List UInt8
 n:Int
 pos:Int
 deriving Inhabited,DecidableEq
structure Fnd where
 t:Tok
 n:Nat
 e:Int
 deriving DecidableEq
def noT:Tok:=⟨0,[],0,0⟩
def dU (e:Int):Fnd:=⟨noT,0,e⟩
def gp (t:Tok):D:=.agg [i64 t.k,.str t.s,i64 t.n,i64 t.pos]
def re (f:Fnd):D:=.agg [i64 f.t.k,.str f.t.s,i64 f.t.n,i64 f.t.pos,i64 f.n,i64 f.e]
def lK (c:UInt8):Bool:=decide (32≤c.toNat) && decide (c.toNat≤126) && decide (c.toNat≠34) && decide (c.toNat≠92)
def kV:List UInt8:=[48,49,50,51,52,53,54,55,56,57,97,98,99,100,101,102]
def fI:List UInt8→UInt8 × Nat
 | []=>(0,0)
 | c::r =>
   if c=34∨c=92 then (c,1)
   else if c=110 then (10,1)
   else if c=116 then (9,1)
   else if c=120 then
    match r with
    | a::b::_=>if Lib.indexByte kV a<0∨Lib.indexByte kV b<0 then (0,0) else (UInt8.ofNat (16*Lib.indexByte kV a+Lib.indexByte kV b).toNat,3)
    | _=>(0,0)
   else (0,0)
def dQ:Nat→List UInt8→Nat→List UInt8→List UInt8 × Nat × Int
 | 0,_,_,_=>([],0,5)
 | _+1,[],_,_=>([],0,5)
 | m+1,c::r,i,acc =>
   if c=34 then (if 200<acc.length then ([],0,7) else (acc,i+1,0))
   else if c=92 then (if (fI r).2=0 then ([],0,5) else dQ m (r.drop (fI r).2) (i+(fI r).2+1) (acc++[(fI r).1]))
   else if lK c then dQ m r (i+1) (acc++[c])
   else ([],0,5)
def cS:List UInt8→List UInt8 × Nat × Int
 | []=>([],0,5)
 | c::r=>if c=34 then dQ r.length.succ r 1 [] else ([],0,5)
def kz:List UInt8→Nat
 | []=>0
 | c::r=>if bH c then kz r+1 else 0
def Al:List UInt8:=[59,58,44,46,61,60,62,43,45,42,47,94,40,41,123,125,91,93,124,38]
def nM (s:List UInt8) (n:Nat):Fnd :=
 if 20<n then dU 7 else if FM (s.take n) then ⟨⟨1,s.take n,0,0⟩,n,0⟩ else if gr ((s.take n).getD 0 0) then ⟨⟨3,s.take n,0,0⟩,n,0⟩ else ⟨⟨2,s.take n,0,0⟩,n,0⟩
def ux (s:List UInt8):Fnd :=
 if cz (s.drop 1)=0∨gr (s.getD 1 0) then dU 5 else if 20<cz (s.drop 1) then dU 7 else ⟨⟨6,(s.drop 1).take (cz (s.drop 1)),0,0⟩,cz (s.drop 1)+1,0⟩
def tI (neg:Bool) (l:List UInt8):Int × Int:=if b8 neg l then (if neg then -(bW l:Int) else bW l,0) else (0,5)
def Co (s:List UInt8):Int × Int:=if bp s [126] then tI true (s.drop 1) else tI false s
def AA (s:List UInt8):Fnd :=
 ⟨⟨4,[],(Co (s.take (kz (s.drop 1)+1))).1,0⟩,kz (s.drop 1)+1,(Co (s.take (kz (s.drop 1)+1))).2⟩
def uN (s:List UInt8):Fnd:=⟨⟨5,(cS s).1,0,0⟩,(cS s).2.1,(cS s).2.2⟩
def m6 (s:List UInt8):Fnd :=
 if bp s [45,62] || bp s [61,61] then ⟨⟨7,s.take 2,0,0⟩,2,0⟩ else if Lib.indexByte Al (s.getD 0 0)<0 then dU 5 else ⟨⟨7,s.take 1,0,0⟩,1,0⟩
def dG (s:List UInt8):Fnd :=
 if 0<cz s then nM s (cz s)
 else if s.getD 0 0=39 then ux s
 else if bH (s.getD 0 0) || decide (s.getD 0 0=126) then AA s
 else if s.getD 0 0=34 then uN s
 else m6 s
def wq:List UInt8:=[32,9,10]
def ij:List UInt8→Option Nat
 | []=>none
 | c::r=>if c=10 then some 0 else (ij r).map (·+1)
def jG:Nat→List UInt8→Nat
 | 0,_=>0
 | _+1,[]=>0
 | m+1,c::r =>
   if c=32∨c=9∨c=10 then jG m r+1
   else if c=35 then
    match ij (c::r) with
    | none=>(c::r).length
    | some k=>k+jG m ((c::r).drop k)
   else 0
def bx (s:List UInt8):Nat:=jG s.length.succ s
def ec:Nat→List UInt8→Nat→List (Nat × Fnd)
 | 0,_,_=>[]
 | m+1,s,at' =>
   if s.drop (bx s)=[] then []
   else if (dG (s.drop (bx s))).e≠0 then [(at'+bx s,dG (s.drop (bx s)))]
   else (at'+bx s,dG (s.drop (bx s)))::ec m ((s.drop (bx s)).drop (dG (s.drop (bx s))).n) (at'+bx s+(dG (s.drop (bx s))).n)
def aQ (s:List UInt8):List (Nat × Fnd):=ec s.length.succ s 0
def kI:List (Nat × Fnd)→Option (Nat × Int)
 | []=>none
 | q::r=>if q.2.e≠0 then some (q.1,q.2.e) else kI r
def pS (q:Nat × Fnd):Tok:={ q.2.t with pos:=q.1 }
def da (s:List UInt8):List Tok × Nat × Int :=
 match kI (aQ s) with
 | some (i,e)=>([],i,e)
 | none=>((aQ s).map pS,s.length,0)
end Go.Proofs.YtejpnabbmgpmaaaGreat

namespace Go.Proofs.YtejpnabbmgpmaaaGreat
open Go.Ab
structure PS where
 l:List Tok
 fin:Int
 err:Int
 pos:Int
 nest:Nat
def PS.peek (s:PS):Tok:=match s.l with
 | []=>⟨0,[],0,s.fin⟩
 | t::_=>t
def PS.next (s:PS):PS:={ s with l:=s.l.tail }
def PS.fail (s:PS) (e p:Int):PS:=if s.err=0 then { s with err:=e,pos:=p } else s
def PS.wrong (s:PS):PS:=s.fail 5 s.peek.pos
def PS.is (s:PS) (k:Int) (t:List UInt8):Bool:=!s.l.isEmpty && decide (s.peek.k=k) && decide (s.peek.s=t)
def PS.sees (s:PS) (k:Int) (t:List UInt8):Bool:=decide (s.err=0) && s.is k t
def PS.may (s:PS) (k:Int) (t:List UInt8):PS:=if s.sees k t then s.next else s
def PS.must (s:PS) (k:Int) (t:List UInt8):PS:=if s.sees k t then s.next else s.wrong
def PS.has (s:PS) (k:Int):Bool:=decide (s.err=0) && decide (s.peek.k=k)
def PS.of (s:PS) (k:Int):List UInt8 × PS:=if s.has k then (s.peek.s,s.next) else ([],s.wrong)
abbrev PR:=List EN × PS
def nd0 (k:Int) (pos:Int):EN:=⟨k,0,0,0,0,[],[],[],pos⟩
def bz (n:EN):List EN:=aD n []
def noE:List EN:=bz (nd0 1 0)
def ie (ns:List EN):EN:=ndE ns (ns.length-1)
def kS:List UInt8:=[116,114,117,101]
def gJ:List UInt8:=[102,97,108,115,101]
def mu:List UInt8:=[99,97,115,101]
def HZ:List UInt8:=[102,117,110]
def Hv:List UInt8:=[108,101,116]
def kQ:List UInt8:=[114,101,99]
def bIn:List UInt8:=[105,110]
def bIf:List UInt8:=[105,102]
def qq:List UInt8:=[116,104,101,110]
def pP:List UInt8:=[101,108,115,101]
def bOf:List UInt8:=[111,102]
def EZ:List UInt8:=[101,110,100]
def bTo:List UInt8:=[45,62]
section
variable (ex:PS→PR)
def PS.parted (s:PS) (t:Tok) (l:List EF):PS :=
 if s.err≠0 then s else if l.length=30 then s.fail 8 t.pos else if (l.any fun f=>decide (f.nm=t.s)) then s.fail 5 t.pos else s
def gY (s:PS) (l:List EF):EF × PS :=
 let r:=s.of 2
 (⟨r.1,[],0⟩,((r.2.parted s.peek l).must 7 [61]))
def eJ (s:PS) (l:List EF):EF × PS :=
 let r:=s.of 3
 let q:=(r.2.parted s.peek l).of 2
 (⟨r.1,q.1,0⟩,q.2.must 7 bTo)
def bt (between:List UInt8) (part:PS→List EF→EF × PS):Nat→PS→List EF→List (List EN)→List EF × List (List EN) × PS
 | 0,s,l,ks=>(l,ks,s)
 | m+1,s,l,ks =>
   let f:=part s l
   let e:=ex f.2
   if e.2.sees 7 between then bt between part m e.2.next (l++[f.1]) (ks++[e.1]) else (l++[f.1],ks++[e.1],e.2)
def er (s:PS) (pos:Int):PR :=
 if s.sees 7 [125] then (bz (nd0 11 pos),s.next)
 else
  let r:=bt ex [44] gY s.l.length.succ s [] []
  (aD { nd0 11 pos with l:=r.1 } r.2.1,r.2.2.must 7 [125])
def gy (s:PS) (pos:Int):PR :=
 let e:=ex s
 let s1:=e.2.must 1 bOf
 let r:=bt ex [124] eJ s1.l.length.succ s1 [] []
 (aD { nd0 14 pos with l:=r.1 } (e.1::r.2.1),r.2.2.must 1 EZ)
def dy (s:PS):PR :=
 let t:=s.peek
 if s.err≠0 then (noE,s.wrong)
 else if t.k=4 then (bz { nd0 1 t.pos with n:=t.n },s.next)
 else if t.k=5 then (bz { nd0 3 t.pos with s:=t.s },s.next)
 else if t.k=2 then (bz { nd0 4 t.pos with name:=t.s },s.next)
 else if s.sees 1 kS then (bz { nd0 2 t.pos with n:=1 },s.next)
 else if s.sees 1 gJ then (bz (nd0 2 t.pos),s.next)
 else if s.sees 7 [40] then
  let e:=ex s.next
  (e.1,e.2.must 7 [41])
 else if s.sees 7 [123] then er ex s.next t.pos
 else if s.sees 1 mu then gy ex s.next t.pos
 else (noE,s.wrong)
def gf:Nat→List EN→PS→PR
 | 0,a,s=>(a,s)
 | m+1,a,s=>if s.sees 7 [46] then gf m (aD { nd0 12 s.peek.pos with name:=(s.next.of 2).1 } [a]) (s.next.of 2).2 else (a,s)
def dv (s:PS):PR :=
 let r:=dy ex s
 gf r.2.l.length.succ r.1 r.2
def PS.begins (s:PS):Bool :=
 let t:=s.peek
 decide (t.k=4) || decide (t.k=5) || decide (t.k=2) || (decide (t.k=1) && (decide (t.s=kS) || decide (t.s=gJ) || decide (t.s=mu))) || (decide (t.k=7) && (decide (t.s=[40]) || decide (t.s=[123])))
def gZ:Nat→List EN→PS→PR
 | 0,a,s=>(a,s)
 | m+1,a,s=>if decide (s.err=0) && s.begins then gZ m (aD (nd0 6 (ie a).pos) [a,(dv ex s).1]) (dv ex s).2 else (a,s)
def l8 (s:PS):PR :=
 if s.has 3 then
  let r:=dv ex s.next
  (aD { nd0 13 s.peek.pos with name:=s.peek.s } [r.1],r.2)
 else
  let r:=dv ex s
  gZ ex r.2.l.length.succ r.1 r.2
def opS (s:PS):List (List UInt8 × Int)→Option Int
 | []=>none
 | q::r=>if s.sees 7 q.1 then some q.2 else opS s r
def fp:List (List UInt8 × Int):=[([42],3),([47],4)]
def iu:List (List UInt8 × Int):=[([43],1),([45],2),([94],7)]
def jU:List (List UInt8 × Int):=[([60],5),([61,61],6)]
def jM (ops:List (List UInt8 × Int)) (sub:PS→PR):Nat→List EN→PS→PR
 | 0,a,s=>(a,s)
 | m+1,a,s=>match opS s ops with
   | some n=>jM ops sub m (aD { nd0 10 s.peek.pos with n:=n } [a,(sub s.next).1]) (sub s.next).2
   | none=>(a,s)
def jD (s:PS):PR:=jM fp (l8 ex) (l8 ex s).2.l.length.succ (l8 ex s).1 (l8 ex s).2
def u7 (s:PS):PR:=jM iu (jD ex) (jD ex s).2.l.length.succ (jD ex s).1 (jD ex s).2
def sR (s:PS):PR :=
 let a:=u7 ex s
 match opS a.2 jU with
 | some n =>
   let b:=u7 ex a.2.next
   (aD { nd0 10 a.2.peek.pos with n:=n } [a.1,b.1],b.2)
 | none=>a
def rN (s:PS) (pos:Int):PR :=
 let k:Int:=if s.sees 1 kQ then 8 else 7
 let x:=(s.may 1 kQ).of 2
 let s2:=x.2.must 7 [61]
 let a:=ex s2
 let s3:=if k=8∧(ie a.1).k≠5 then a.2.fail 5 s2.peek.pos else a.2
 let b:=ex (s3.must 1 bIn)
 (aD { nd0 k pos with name:=x.1 } [a.1,b.1],b.2)
def ifS (s:PS) (pos:Int):PR :=
 let a:=ex s
 let b:=ex (a.2.must 1 qq)
 let c:=ex (b.2.must 1 pP)
 (aD (nd0 9 pos) [a.1,b.1,c.1],c.2)
def oK (s:PS):PR :=
 let t:=s.peek
 if s.sees 1 HZ then
  let x:=s.next.of 2
  let b:=ex (x.2.must 7 bTo)
  (aD { nd0 5 t.pos with name:=x.1 } [b.1],b.2)
 else if s.sees 1 Hv then rN ex s.next t.pos
 else if s.sees 1 bIf then ifS ex s.next t.pos
 else sR ex s
end
def ia:Nat→PS→PR
 | 0,s=>(noE,s.fail 6 s.peek.pos)
 | m+1,s=>if s.err≠0 then (noE,s) else
   let r:=oK (ia m) { s with nest:=s.nest+1 }
   (r.1,{ r.2 with nest:=s.nest })
end Go.Proofs.YtejpnabbmgpmaaaGreat

namespace Go.Proofs.YtejpnabbmgpmaaaGreat
open Go.Ab
def PSo (N:Int) (s:PS):Prop:=(∀ t∈s.l,0≤t.pos∧t.pos≤N)∧(0≤s.fin∧s.fin≤N)∧(0≤s.pos∧s.pos≤N)
structure SS (s r:PS):Prop where
 suf:∃ k,r.l=s.l.drop k
 fin:r.fin=s.fin
 nest:r.nest=s.nest
 pos:∀ N,PSo N s→0≤r.pos∧r.pos≤N
theorem SS.refl (s:PS):SS s s:=⟨⟨0,rfl⟩,rfl,rfl,fun _ h=>h.2.2⟩
theorem SS.po {s r:PS} (h:SS s r) {N:Int} (g:PSo N s):PSo N r:=by
 obtain ⟨k,hk⟩:=h.suf
 refine ⟨fun t ht=>?_,by rw [h.fin];exact g.2.1,h.pos N g⟩
 rw [hk] at ht
 exact g.1 t (List.mem_of_mem_drop ht)
theorem SS.trans {a b c:PS} (h:SS a b) (g:SS b c):SS a c:=by
 obtain ⟨k,hk⟩:=h.suf
 obtain ⟨j,hj⟩:=g.suf
 exact ⟨⟨k+j,by rw [hj,hk,List.drop_drop]⟩,g.fin.trans h.fin,g.nest.trans h.nest,fun N hN=>g.pos N (h.po hN)⟩
theorem SS.len {s r:PS} (h:SS s r):r.l.length≤s.l.length:=by
 obtain ⟨k,hk⟩:=h.suf
 rw [hk,List.length_drop];omega
theorem SS.next (s:PS):SS s s.next:=⟨⟨1,by simp [PS.next]⟩,rfl,rfl,fun _ h=>h.2.2⟩
theorem ki {N:Int} {s:PS} (h:PSo N s):0≤s.peek.pos∧s.peek.pos≤N:=by
 unfold PS.peek
 split
 ·exact h.2.1
 ·rename_i t r e
  exact h.1 t (by rw [e];exact List.mem_cons_self)
theorem SS.fail (s:PS) (e p:Int) (h:∀ N,PSo N s→0≤p∧p≤N):SS s (s.fail e p):=by
 unfold PS.fail
 split
 ·exact ⟨⟨0,rfl⟩,rfl,rfl,h⟩
 ·exact SS.refl s
theorem SS.failp (s:PS) (e:Int):SS s (s.fail e s.peek.pos):=SS.fail s e _ fun _ h=>ki h
theorem SS.wrong (s:PS):SS s s.wrong:=SS.failp s 5
theorem SS.may (s:PS) (k:Int) (t:List UInt8):SS s (s.may k t):=by
 unfold PS.may;split
 ·exact SS.next s
 ·exact SS.refl s
theorem SS.must (s:PS) (k:Int) (t:List UInt8):SS s (s.must k t):=by
 unfold PS.must;split
 ·exact SS.next s
 ·exact SS.wrong s
theorem SS.of (s:PS) (k:Int):SS s (s.of k).2:=by
 unfold PS.of;split
 ·exact SS.next s
 ·exact SS.wrong s
theorem ba {s:PS} {k:Int} {t:List UInt8} (h:s.sees k t=true):s.next.l.length+1=s.l.length:=by
 unfold PS.sees PS.is at h
 simp only [Bool.and_eq_true,Bool.not_eq_true',decide_eq_true_eq] at h
 have:s.l≠[]:=by
  intro e;rw [e] at h;simp at h
 show s.l.tail.length+1=_
 rw [List.length_tail]
 have:=List.length_pos_iff.2 this
 omega
theorem gh {s:PS} {k:Int} (h:s.peek.k=k) (hk:k≠0):s.next.l.length+1=s.l.length:=by
 have:s.l≠[]:=by
  intro e;unfold PS.peek at h;rw [e] at h;exact hk h.symm
 show s.l.tail.length+1=_
 rw [List.length_tail]
 have:=List.length_pos_iff.2 this
 omega
theorem D0 {s:PS} {k:Int} (h:s.has k=true) (hk:k≠0):s.next.l.length+1=s.l.length:=by
 unfold PS.has at h
 simp only [Bool.and_eq_true,decide_eq_true_eq] at h
 exact gh h.2 hk
def bg (ls:List (List EN)):Nat:=(ls.map List.length).sum
theorem mR:∀ (ls:List (List EN)) (acc:List EN) (rs:List Int),(bl ls acc rs).1.length=acc.length+bg ls
 | [],_,_=>by simp [bl,bg]
 | l::r,acc,rs=>by
   rw [bl,mR r]
   simp [bg,Nat.add_assoc]
theorem cI (n:EN) (ls:List (List EN)):(aD n ls).length=bg ls+1:=by
 simp [aD,mR]
def gk (b:Nat) (ns:List EN):Prop:=∀ n∈ns,n.l.length≤b
theorem ye (n:EN) (ks:List Int):(aI n ks).l.length≤n.l.length:=by
 show (if aw n.k then aW ks (aH n.k) n.l 0 else []).length≤_
 split
 ·rw [cR];exact Nat.le_refl _
 ·exact Nat.zero_le _
theorem tX {b:Nat}:∀ (ls:List (List EN)) (acc:List EN) (rs:List Int),(∀ l∈ls,gk b l)→gk b acc→gk b (bl ls acc rs).1
 | [],_,_,_,h=>h
 | l::r,acc,rs,hl,h=>by
   refine tX r _ _ (fun x hx=>hl x (List.mem_cons_of_mem _ hx)) fun n hn=>?_
   rcases List.mem_append.1 hn with hn | hn
   ·exact h n hn
   ·obtain ⟨m,hm,rfl⟩:=List.mem_map.1 hn
    exact Nat.le_trans (ye _ _) (hl l List.mem_cons_self m hm)
theorem cW {b:Nat} {n:EN} {ls:List (List EN)} (hn:n.l.length≤b) (hl:∀ l∈ls,gk b l):gk b (aD n ls):=by
 intro m hm
 rcases List.mem_append.1 hm with hm | hm
 ·exact tX ls [] [] hl (fun _ h=>by cases h) m hm
 ·rw [List.mem_singleton.1 hm]
  exact Nat.le_trans (ye _ _) hn
theorem gk.mono {b c:Nat} {ns:List EN} (h:gk b ns) (hc:b≤c):gk c ns:=fun n hn=>Nat.le_trans (h n hn) hc
structure GP (d:Nat) (s:PS) (r:PR):Prop where
 ss:SS s r.2
 tr:Tr r.1
 sz:r.1.length+4*r.2.l.length≤4*s.l.length+d
 wd:gk (s.l.length+1-r.2.l.length) r.1
theorem GP.pre {d e:Nat} {s s':PS} {r:PR} (h:GP d s' r) (hs:SS s s') (he:4*s'.l.length+d≤4*s.l.length+e):GP e s r :=
 ⟨hs.trans h.ss,h.tr,Nat.le_trans h.sz he,h.wd.mono (by have:=hs.len;omega)⟩
theorem GP.post {d:Nat} {s:PS} {l:List EN} {s' s'':PS} (h:GP d s (l,s')) (hs:SS s' s''):GP d s (l,s'') :=
 ⟨h.ss.trans hs,h.tr,by have:=h.sz;have:=hs.len;simp only at *;omega,h.wd.mono (by have:=hs.len;have:=h.ss.len;simp only at *;omega)⟩
theorem GP.leaf {s s':PS} {n:EN} (hn:aG n=0) (hl:n.l=[]) (hs:SS s s') {d:Nat} (hd:1+4*s'.l.length≤4*s.l.length+d):GP d s (bz n,s') :=
 ⟨hs,.join n [] hn (fun _ h=>by cases h),by show (aD n []).length+_≤_;rw [cI];simp only [bg,List.map_nil,List.sum_nil];omega,cW (by rw [hl];exact Nat.zero_le _) (fun _ h=>by cases h)⟩
theorem GP.GK {s s1:PS} {a:PR} {n:EN} {d e:Nat} (ha:GP d s1 a) (hs:SS s s1) (hn:aG n=1) (hl:n.l=[]) (he:4*s1.l.length+d+1≤4*s.l.length+e):GP e s (aD n [a.1],a.2):=by
 have h1:=ha.sz
 have h3:=hs.len
 refine ⟨hs.trans ha.ss,.join n _ hn (fun l h=>by rw [List.mem_singleton.1 h];exact ha.tr),?_,cW (by rw [hl];exact Nat.zero_le _) fun l h=>?_⟩
 ·rw [cI]
  simp only [bg,List.map_cons,List.map_nil,List.sum_cons,List.sum_nil]
  omega
 ·rw [List.mem_singleton.1 h]
  exact ha.wd.mono (by simp only;omega)
theorem GP.vd {s s1 s2:PS} {a b:PR} {n:EN} {d d' e:Nat} (ha:GP d s1 a) (hb:GP d' s2 b) (hs:SS s s1) (hm:SS a.2 s2) (hn:aG n=2) (hl:n.l=[])
  (he:4*s1.l.length+4*s2.l.length+d+d'+1≤4*s.l.length+4*a.2.l.length+e):GP e s (aD n [a.1,b.1],b.2):=by
 have h1:=ha.sz
 have h2:=hb.sz
 have h3:=hs.len
 have h4:=hm.len
 have h5:=ha.ss.len
 have h6:=hb.ss.len
 refine ⟨((hs.trans ha.ss).trans hm).trans hb.ss,.join n _ hn (fun l h=>?_),?_,cW (by rw [hl];exact Nat.zero_le _) fun l h=>?_⟩
 ·rcases List.mem_cons.1 h with rfl | h
  ·exact ha.tr
  ·rw [List.mem_singleton.1 h];exact hb.tr
 ·rw [cI]
  simp only [bg,List.map_cons,List.map_nil,List.sum_cons,List.sum_nil]
  omega
 ·rcases List.mem_cons.1 h with rfl | h
  ·exact ha.wd.mono (by simp only;omega)
  ·rw [List.mem_singleton.1 h];exact hb.wd.mono (by simp only;omega)
theorem GP.Is {s s1 s2 s3:PS} {a b c:PR} {n:EN} {d e:Nat} (ha:GP d s1 a) (hb:GP d s2 b) (hc:GP d s3 c) (hs:SS s s1) (hm:SS a.2 s2) (hm':SS b.2 s3) (hn:aG n=3) (hl:n.l=[])
  (he:4*s1.l.length+3*d+1≤4*s.l.length+e):GP e s (aD n [a.1,b.1,c.1],c.2):=by
 have h1:=ha.sz
 have h2:=hb.sz
 have h2':=hc.sz
 have h3:=hs.len
 have h4:=hm.len
 have h4':=hm'.len
 have h5:=ha.ss.len
 have h6:=hb.ss.len
 have h7:=hc.ss.len
 refine ⟨((((hs.trans ha.ss).trans hm).trans hb.ss).trans hm').trans hc.ss,.join n _ hn (fun l h=>?_),?_,cW (by rw [hl];exact Nat.zero_le _) fun l h=>?_⟩
 ·simp only [List.mem_cons,List.not_mem_nil,or_false] at h
  rcases h with rfl | rfl | rfl
  ·exact ha.tr
  ·exact hb.tr
  ·exact hc.tr
 ·rw [cI]
  simp only [bg,List.map_cons,List.map_nil,List.sum_cons,List.sum_nil]
  omega
 ·simp only [List.mem_cons,List.not_mem_nil,or_false] at h
  rcases h with rfl | rfl | rfl
  ·exact ha.wd.mono (by simp only;omega)
  ·exact hb.wd.mono (by simp only;omega)
  ·exact hc.wd.mono (by simp only;omega)
end Go.Proofs.YtejpnabbmgpmaaaGreat

namespace Go.Proofs.YtejpnabbmgpmaaaGreat
open Go.Ab
theorem sL (l:List EN):∀ (a:List (List EN)) (acc:List EN) (rs:List Int),bl (a++[l]) acc rs=((bl a acc rs).1++l.map (aF (bl a acc rs).1.length),(bl a acc rs).2++[(((bl a acc rs).1.length+l.length:Nat):Int)-1])
 | [],_,_=>rfl
 | _::r,_,_=>sL l r _ _
def gU (ls:List (List EN)) (i:Nat):List EN × List Int:=bl (ls.take i) [] []
theorem Ad {ls:List (List EN)} {i:Nat} (h:i<ls.length):gU ls (i+1)=((gU ls i).1++ls[i].map (aF (gU ls i).1.length),(gU ls i).2++[(((gU ls i).1.length+ls[i].length:Nat):Int)-1]):=by
 unfold gU
 rw [List.take_succ_eq_append_getElem h,sL]
theorem Bo (ls:List (List EN)):gU ls ls.length=bl ls [] []:=by rw [gU,List.take_length]
theorem Dg (a b:List (List EN)):bg (a++b)=bg a+bg b:=by simp [bg]
theorem Cm {ls:List (List EN)} {i:Nat} (h:i<ls.length):(gU ls i).1.length+ls[i].length≤bg ls:=by
 have h1:(gU ls i).1.length=bg (ls.take i):=by unfold gU;rw [mR];simp
 have h2:bg ls=bg (ls.take i)+bg (ls.drop i):=by rw [← Dg,List.take_append_drop]
 have h3:bg (ls.drop i)=ls[i].length+bg (ls.drop (i+1)):=by rw [List.drop_eq_getElem_cons h];unfold bg;rw [List.map_cons,List.sum_cons]
 omega
theorem vA:∀ (ls:List (List EN)) (acc:List EN) (rs:List Int),(bl ls acc rs).2.length=rs.length+ls.length
 | [],_,_=>by simp [bl]
 | l::r,acc,rs=>by rw [bl,vA];simp;omega
theorem EA (ls:List (List EN)) (i:Nat):(gU ls i).2.length≤i:=by unfold gU;rw [vA];simp;omega
def lM (off:Nat) (K:List Int) (x:Nat):List Int:=((K.take x).map fun k:Int=>k+off)++K.drop x
theorem BY (off:Nat) (K:List Int):lM off K K.length=K.map fun k:Int=>k+off:=by simp [lM]
theorem CV (off:Nat) (K:List Int) (x:Nat):(lM off K x).length=K.length:=by
 simp only [lM,List.length_append,List.length_map,List.length_take,List.length_drop];omega
theorem Di {off:Nat} {K:List Int} {x:Nat} (h:x<K.length):(lM off K x).getD x 0=K.getD x 0:=by
 unfold lM
 rw [List.getD_eq_getElem?_getD,List.getElem?_append_right (by simp;omega)]
 simp [Nat.min_eq_left (Nat.le_of_lt h),h]
theorem y3 {off:Nat} {K:List Int} {x:Nat} (h:x<K.length):(lM off K x).set x (K.getD x 0+off)=lM off K (x+1):=by
 have h1:K.take (x+1)=K.take x++[K[x]]:=by simp
 have h2:K.drop x=K[x]::K.drop (x+1):=List.drop_eq_getElem_cons h
 unfold lM
 have h3:((K.take x).map fun k:Int=>k+off).length=x:=by simp;omega
 rw [h1,h2,List.set_append_right _ _ (by omega),h3,Nat.sub_self,List.set_cons_zero,List.map_append,List.append_assoc]
 simp [h]
theorem F1 {ls:List (List EN)} {i:Nat} (h:i<ls.length):(ls.map exD).getD i .nilp=.agg [.sl (some 9) (ls[i].map enD)]:=by simp [h,exD]
theorem nk (M:EN):enD M=.agg [i64 M.k,i64 M.a,i64 M.b,i64 M.c,i64 M.n,.str M.name,.str M.s,.sl (some 3) (M.l.map fD),i64 M.pos]:=rfl
theorem oF {G} (n:EN) (ls:List (List EN)) (hn:n.l.length≤1000000) (hL:ls.length≤1000000) (hS:bg ls≤1000000) (hk:∀ l∈ls,∀ m∈l,gS l.length m) (hw:∀ l∈ls,gk 900000 l) :
  HP Tryz.prog G 86 [enD n,.sl (some 1) (ls.map exD)] (fun r=>r=.d (exD (aD n ls))):=by
 unfold enD efD
 refine aR Tryz.func86 rfl (by decide +kernel) (by simp [Tryz.ntmps86]) (veil fun E=>?_)
 simp only [go_sem]
 refine lQ E 6 98 none rfl (by rw [aa];decide) ?_
 simp only [go_sem]
 refine wC E [5] 0 97 (some 9) [.d .nils] rfl rfl (by rw [aa];decide) ?_
 simp only [go_sem]
 refine a9 E (X:={ i:Nat // i≤ls.length }) (fun x=>[(2,.at [2] 0),(4,.at [4] 0),(5,.at [5] 0),(6,.vw [98] 0 (gU ls x.1).2.length),(14,.d (.sl (some 1) (ls.map exD))),(15,.d (i64 ls.length)),(16,.d (i64 x.1))])
  (fun x=>[([2],.box [.d (i64 n.k),.d (i64 n.a),.d (i64 n.b),.d (i64 n.c),.d (i64 n.n),.d (.str n.name),.d (.str n.s),.d (.sl (some 3) (n.l.map fD)),.d (i64 n.pos)]),([4],.box [.d .nils]),([5],.box [.vw [97] 0 (gU ls x.1).1.length]),([97],.arr (some 9) ((gU ls x.1).1.map enD)),([98],.arr none ((gU ls x.1).2.map i64))]) [2,4,5,97,98] (fun x=>ls.length-x.1) ⟨0,Nat.zero_le _⟩ id ?_ ?_
 ·simp only [go_sem]
  exact ⟨rfl,rfl,rfl,rfl⟩
 rintro ⟨i,hi⟩ E0
 refine bb E0 fun Q' hQ E'=>?_
 simp only at hi ⊢
 simp only [go_sem]
 refine ai E' (fun h1=>?_) (fun h1=>?_)<;>simp only [go_sem]
 ·have h1':i<ls.length:=by omega
  refine ⟨⟨by omega,by omega⟩,?_⟩
  rw [F1 h1']
  obtain ⟨l,hle⟩:∃ l,l=ls[i]:=⟨_,rfl⟩
  have hmem:l∈ls:=by rw [hle];exact List.getElem_mem h1'
  have hcl:=Cm h1'
  have hcs:=Ad h1'
  have hcr:=EA ls i
  rw [← hle] at hcl hcs ⊢
  obtain ⟨acc,hacc⟩:∃ acc,acc=(gU ls i).1:=⟨_,rfl⟩
  obtain ⟨rs,hrs⟩:∃ rs,rs=(gU ls i).2:=⟨_,rfl⟩
  rw [← hacc] at hcl hcs
  rw [← hrs] at hcr hcs
  simp only [← hacc,← hrs]
  simp only [go_sem]
  refine a9 E' (X:={ j:Nat // j≤l.length }) (fun x=>[(2,.at [2] 0),(4,.at [4] 0),(5,.at [5] 0),(6,.vw [98] 0 rs.length),(14,.d (.sl (some 1) (ls.map exD))),(15,.d (i64 ls.length)),(16,.d (i64 i)),(9,.d (i64 acc.length)),(24,.d (.sl (some 9) (l.map enD))),(25,.d (i64 l.length)),(26,.d (i64 x.1))])
   (fun x=>[([2],.box [.d (i64 n.k),.d (i64 n.a),.d (i64 n.b),.d (i64 n.c),.d (i64 n.n),.d (.str n.name),.d (.str n.s),.d (.sl (some 3) (n.l.map fD)),.d (i64 n.pos)]),([4],.box [.d .nils]),([5],.box [.vw [97] 0 (acc.length+x.1)]),([97],.arr (some 9) ((acc++(l.take x.1).map (aF acc.length)).map enD)),([98],.arr none (rs.map i64))]) [2,4,5,97,98] (fun x=>l.length-x.1) ⟨0,Nat.zero_le _⟩ id ?_ ?_
  ·simp only [go_sem]
   all_goals first | rfl | simp
  rintro ⟨j,hj⟩ E2
  refine bb E2 fun Q2 hQ2 E3=>?_
  simp only at hj ⊢
  simp only [go_sem]
  refine ai E3 (fun h2=>?_) (fun h2=>?_)<;>simp only [go_sem]
  ·have h2':j<l.length:=by omega
   refine ⟨⟨by omega,by omega⟩,?_⟩
   rw [aN h2',bd h2']
   obtain ⟨m,hm⟩:∃ m,m=l[j]:=⟨_,rfl⟩
   have hmm:m∈l:=by rw [hm];exact List.getElem_mem h2'
   have hmk:=hk l hmem m hmm
   have hml:=hw l hmem m hmm
   rw [← hm]
   simp only [go_sem]
   refine ab E3 [.d (enD m)] [] [] (dr m (by omega)) rfl rfl ⟨by simp only [go_sem],by rw [aa];decide⟩ rfl (by simp only [go_sem]) (by simp only [go_sem]) ?_
   rintro _ _ ⟨rfl,rfl⟩
   simp only [go_sem]
   have hKl:(ah m).length≤1000000:=by
    rw [aV];unfold aG
    have:=bJ m.k
    split<;>omega
   have hKk:∀ q,q<(ah m).length→0≤(ah m).getD q 0∧(ah m).getD q 0<l.length:=fun q hq=>hmk _ (by simp [hq])
   have hwm:aI m ((ah m).map fun k:Int=>k+acc.length)=aF acc.length m:=rfl
   obtain ⟨K,hK⟩:∃ K,K=ah m:=⟨_,rfl⟩
   rw [← hK] at hKl hKk hwm ⊢
   refine a9 E3 (X:={ q:Nat // q≤K.length }) (fun x=>[(2,.at [2] 0),(4,.at [4] 0),(5,.at [5] 0),(6,.vw [98] 0 rs.length),(11,.at [11] 0),(12,.vw [96] 0 K.length),(14,.d (.sl (some 1) (ls.map exD))),(15,.d (i64 ls.length)),(16,.d (i64 i)),(9,.d (i64 acc.length)),(24,.d (.sl (some 9) (l.map enD))),(25,.d (i64 l.length)),(26,.d (i64 j)),(33,.d (i64 K.length)),(34,.d (i64 x.1))])
    (fun x=>[([2],.box [.d (i64 n.k),.d (i64 n.a),.d (i64 n.b),.d (i64 n.c),.d (i64 n.n),.d (.str n.name),.d (.str n.s),.d (.sl (some 3) (n.l.map fD)),.d (i64 n.pos)]),([4],.box [.d .nils]),([5],.box [.vw [97] 0 (acc.length+j)]),([97],.arr (some 9) ((acc++(l.take j).map (aF acc.length)).map enD)),([98],.arr none (rs.map i64)),
     ([11],.box [.d (i64 m.k),.d (i64 m.a),.d (i64 m.b),.d (i64 m.c),.d (i64 m.n),.d (.str m.name),.d (.str m.s),.d (.sl (some 3) (m.l.map fD)),.d (i64 m.pos)]),([96],.arr none ((lM acc.length K x.1).map i64))]) [2,4,5,11,96,97,98] (fun x=>K.length-x.1) ⟨0,Nat.zero_le _⟩ (tau [([96],[31,0])]) ?_ ?_
   ·simp only [go_sem]
    all_goals rfl
   rintro ⟨q,hq⟩ E4
   refine bb E4 fun Q4 hQ4 E5=>?_
   simp only at hq ⊢
   simp only [go_sem]
   refine ai E5 (fun h3=>?_) (fun h3=>?_)<;>simp only [go_sem]
   ·have h3':q<K.length:=by omega
    have hpl:=CV acc.length K q
    have hin:=hKk q h3'
    rw [show ((lM acc.length K q).map i64).getD q .nilp=i64 (K.getD q 0) by rw [← Di h3',bk (by omega)]]
    simp only [go_sem]
    refine ⟨⟨by omega,by omega⟩,⟨by omega,by omega⟩,?_⟩
    have hmp:((lM acc.length K q).map i64).set q (.int .i64 (w64 (K.getD q 0+acc.length)))=(lM acc.length K (q+1)).map i64:=by
     rw [ak ⟨by omega,by omega⟩,← y3 h3',List.map_set]
    rw [hmp,hQ4]
    simp only [go_sem]
    refine ⟨⟨q+1,by omega⟩,by show K.length-(q+1)<_;omega,id,?_⟩
    rw [ak ⟨by omega,by omega⟩]
    simp only [go_sem]
    all_goals rfl
   ·have hq2:q=K.length:=by omega
    subst hq2
    rw [BY,hQ4]
    simp only [go_sem]
    refine fF E3 [96] none ((K.map fun k:Int=>k+acc.length).map i64) rfl ?_
    simp only [go_sem]
    refine aj mixed E3 fun X=>?_
    simp only [go_sem]
    rw [List.take_of_length_le (l:=List.map i64 _) (by simp)]
    refine cP X (qM m (K.map fun k:Int=>k+acc.length) (by omega) (by rw [List.length_map];exact hKl)) rfl rfl (by simp) ?_
    obtain ⟨M,hM⟩:∃ M,M=aF acc.length m:=⟨_,rfl⟩
    rw [hwm,← hM,nk M]
    simp only [go_sem]
    have hout:List.take (acc.length+j) (List.map enD (acc++List.map (aF acc.length) (List.take j l)))++[.agg [i64 M.k,i64 M.a,i64 M.b,i64 M.c,i64 M.n,.str M.name,.str M.s,.sl (some 3) (M.l.map fD),i64 M.pos]]=(acc++(l.take (j+1)).map (aF acc.length)).map enD:=by
     rw [List.take_of_length_le (by simp;omega),List.take_succ_eq_append_getElem h2',← hm]
     simp only [List.map_append,List.map_cons,List.map_nil,← hM,← nk M,List.append_assoc]
    rw [hout]
    refine ⟨by omega,by decide +kernel,?_⟩
    rw [hQ2]
    simp only [go_sem]
    refine ⟨⟨j+1,by omega⟩,by show l.length-(j+1)<_;omega,tau [([97],[51])],?_⟩
    rw [ak ⟨by omega,by omega⟩]
    simp only [go_sem]
    exact ⟨rfl,rfl⟩
  ·rw [hQ2]
   simp only [go_sem]
   have hj2:j=l.length:=by omega
   subst hj2
   have hro:List.map i64 rs++[.int .i64 (w64 (((acc.length+l.length:Nat):Int)-1))]=(rs++[((acc.length+l.length:Nat):Int)-1]).map i64:=by
    rw [ak ⟨by omega,by omega⟩]
    simp only [List.map_append,List.map_cons,List.map_nil]
   rw [hro]
   refine ⟨by omega,?_⟩
   rw [hQ]
   simp only [go_sem]
   refine ⟨⟨i+1,by omega⟩,by show ls.length-(i+1)<_;omega,tau [([98],[60])],?_⟩
   simp only [hcs]
   rw [ak ⟨by omega,by omega⟩]
   simp only [go_sem]
   simp only [List.length_append,List.length_map,List.length_singleton]
   refine ⟨⟨trivial,rfl⟩,?_⟩
   first | rfl | exact ⟨rfl,rfl⟩ | exact ⟨trivial,rfl⟩ | exact ⟨rfl,trivial⟩ | trivial
 ·rw [hQ]
  have hi2:i=ls.length:=by omega
  subst hi2
  rw [Bo]
  obtain ⟨acc,hacc⟩:∃ acc,acc=(bl ls [] []).1:=⟨_,rfl⟩
  obtain ⟨rs,hrs⟩:∃ rs,rs=(bl ls [] []).2:=⟨_,rfl⟩
  have hal:acc.length=bg ls:=by rw [hacc,mR];simp
  have hrl:rs.length=ls.length:=by rw [hrs,vA];simp
  have hj:aD n ls=acc++[aI n rs]:=by unfold aD;rw [← hacc,← hrs]
  rw [← hacc,← hrs]
  simp only [go_sem]
  refine fF E [98] none (rs.map i64) rfl ?_
  simp only [go_sem]
  refine aj mixed E fun X=>?_
  simp only [go_sem]
  refine cP X (qM n rs hn (by omega)) rfl rfl (by simp) ?_
  obtain ⟨M,hM⟩:∃ M,M=aI n rs:=⟨_,rfl⟩
  rw [← hM,nk M]
  simp only [go_sem]
  have hout:List.map enD acc++[.agg [i64 M.k,i64 M.a,i64 M.b,i64 M.c,i64 M.n,.str M.name,.str M.s,.sl (some 3) (M.l.map fD),i64 M.pos]]=(aD n ls).map enD:=by
   rw [hj,← hM,List.map_append,← nk];rfl
  rw [hout]
  refine ⟨by omega,by decide +kernel,[([68],some 9,(aD n ls).map enD)],?_⟩
  simp only [go_sem]
  rw [List.take_of_length_le (by rw [hj];simp)]
  rfl
end Go.Proofs.YtejpnabbmgpmaaaGreat

namespace Go.Proofs.YtejpnabbmgpmaaaGreat
open Go.Ab
theorem Ed {G} (n:EN):HP Tryz.prog G 109 [enD n] (fun r=>r=.d (.bool (dj n))):=by
 generalize hb:dj n=b
 unfold dj at hb
 have hk:=bJ n.k
 unfold enD efD
 refine ao Tryz.func109 rfl (by decide +kernel) (by simp [Tryz.ntmps109]) (veil fun E=>?_)
 simp only [go_sem]
 refine aj mixed E fun X=>?_
 simp only [go_sem]
 refine cP X (mX n.k) rfl rfl (by simp) ?_
 simp only [go_sem]
 refine ⟨⟨by omega,by omega⟩,by decide +kernel,?_⟩
 rw [show ([i64 n.a,i64 n.b,i64 n.c]:List D)=[n.a,n.b,n.c].map i64 from rfl]
 obtain ⟨k,hke⟩:∃ k,k=aH n.k:=⟨_,rfl⟩
 rw [← hke] at hk hb ⊢
 have hL:([n.a,n.b,n.c].drop k).length=3-k:=by simp
 have hget:∀ i,i<3-k→(List.map i64 [n.a,n.b,n.c]).getD (k+i) .nilp=i64 (([n.a,n.b,n.c].drop k).getD i 0):=fun i hi=>by
  rw [bk (by simp;omega),List.getD_eq_getElem?_getD,List.getD_eq_getElem?_getD,List.getElem?_drop]
 generalize ([n.a,n.b,n.c]:List Int)=A at hb hL hget ⊢
 generalize A.drop k=L at hb hL hget
 refine cM E (X:={ i:Nat // i≤3-k∧(L.take i).all (fun x=>decide (x=0))=true }) (fun x=>[(16,.vw [11] k (3-k)),(17,.d (i64 (3-k:Nat))),(18,.d (i64 x.1))])
  (fun x=>[([1],.box [.d (i64 n.k),.d (i64 n.a),.d (i64 n.b),.d (i64 n.c),.d (i64 n.n),.d (.str n.name),.d (.str n.s),.d (.sl (some 3) (n.l.map fD)),.d (i64 n.pos)]),([11],.arr none (A.map i64))]) [11,1] (fun x=>3-k-x.1) ⟨0,by simp⟩ ?_ ?_
 ·simp only [go_sem]
  all_goals rfl
 rintro ⟨i,hi,hall⟩ E0
 refine bb E0 fun Q' hQ E'=>?_
 simp only at hi hall ⊢
 simp only [go_sem]
 refine ai E' (fun g1=>?_) (fun g1=>?_)<;>simp only [go_sem]
 ·have hi':i<3-k:=by omega
  have hi2:i<L.length:=by omega
  have hLi:L.getD i 0=L[i]:=by simp [hi2]
  refine ⟨⟨by omega,by omega⟩,?_⟩
  rw [hget i hi',hLi]
  simp only [go_sem]
  refine aZ E' (fun g2=>?_) (fun g2=>?_)<;>simp only [go_sem]
  ·rw [hQ]
   simp only [go_sem]
   have:L.all (fun x=>decide (x=0))=false:=List.all_eq_false.2 ⟨_,List.getElem_mem hi2,by simpa using g2⟩
   rw [← hb,this]
  ·rw [hQ]
   simp only [go_sem]
   have g3:decide (L[i]=0)=true:=by simpa using g2
   refine ⟨⟨i+1,by omega,by rw [List.take_succ_eq_append_getElem hi2,List.all_append,hall];simpa using g3⟩,by show 3-k-(i+1)<_;omega,?_⟩
   rw [ak ⟨by omega,by omega⟩]
   rfl
 ·rw [hQ]
  have h3:i=L.length:=by omega
  subst h3
  rw [List.take_length] at hall
  simp only [go_sem]
  rw [← hb,hall]
theorem Hm {G} (n:EN) (h:fO BIG n):HP Tryz.prog G 58 [enD n] (fun r=>r=.d (.bool (aX n))):=by
 generalize hb:aX n=b
 unfold aX at hb
 have c1:=FT (G:=G) n h
 have c2:=EB (G:=G) n
 have c3:=EC (G:=G) n h
 have c4:=Ed (G:=G) n
 generalize dz n=x1 at c1 hb
 generalize bU n=x2 at c2 hb
 generalize cy n=x3 at c3 hb
 generalize dj n=x4 at c4 hb
 unfold enD efD at *
 refine ao Tryz.func58 rfl (by decide +kernel) (by simp [Tryz.ntmps58]) (veil fun E=>?_)
 simp only [go_sem]
 repeat (first
  | (apply fg E;(· simp only [go_sem]);(· intro h;(try simp only [bq] at h);simp only [↓h,go_sem];rfl);simp only [go_sem])
  | (apply cD E;(· simp only [go_sem]);(· intro h;(try simp only [bq] at h);simp only [↓h,go_sem];rfl);(· intro h;(try simp only [bq] at h);simp only [↓h,go_sem];rfl);simp only [go_sem])
  | (apply cC E;(· simp only [go_sem]);(· rfl);(· intro h h';(try simp only [bq] at h h');simp only [↓h,↓h',go_sem];rfl);simp only [go_sem])
  | (apply bC E;(· simp only [go_sem]);(· rfl);(· intro h h';(try simp only [bq] at h h');simp only [↓h,↓h',go_sem];rfl);(· intro h h';(try simp only [bq] at h h');simp only [↓h,↓h',go_sem];rfl);simp only [go_sem])
  | (apply eI E;(· decide);simp only [go_sem]))
 refine aZ E (fun g=>?_) (fun g=>?_)<;>simp only [go_sem]
 ·have g':¬ (1≤n.k∧n.k≤14∧0≤n.pos∧n.pos≤1048576):=by
   simp only [Bool.or_eq_true,decide_eq_true_eq] at g
   omega
  have:(decide (1≤n.k) && decide (n.k≤14) && decide (0≤n.pos) && decide (n.pos≤1048576))=false:=by
   rw [Bool.eq_false_iff]
   intro hc
   simp only [Bool.and_eq_true,decide_eq_true_eq] at hc
   exact g' ⟨hc.1.1.1,hc.1.1.2,hc.1.2,hc.2⟩
  rw [← hb,this,Bool.false_and]
 ·refine ae E (c1) rfl rfl (by simp) ?_
  rintro _ rfl
  simp only [go_sem]
  repeat (first
   | (apply fg E;(· simp only [go_sem]);(· intro h;(try simp only [bq] at h);simp only [↓h,go_sem];rfl);simp only [go_sem])
   | (apply cD E;(· simp only [go_sem]);(· intro h;(try simp only [bq] at h);simp only [↓h,go_sem];rfl);(· intro h;(try simp only [bq] at h);simp only [↓h,go_sem];rfl);simp only [go_sem])
   | (apply cC E;(· simp only [go_sem]);(· rfl);(· intro h h';(try simp only [bq] at h h');simp only [↓h,↓h',go_sem];rfl);simp only [go_sem])
   | (apply bC E;(· simp only [go_sem]);(· rfl);(· intro h h';(try simp only [bq] at h h');simp only [↓h,↓h',go_sem];rfl);(· intro h h';(try simp only [bq] at h h');simp only [↓h,↓h',go_sem];rfl);simp only [go_sem])
   | (apply eI E;(· decide);simp only [go_sem]))
  (first | (apply nO E;(· simp only [go_sem]);(· intro h hk;(try simp only [bq] at h);refine ae E (c2) rfl (by simp only [↓h,go_sem]<;>rfl) (by simp) ?_;rintro _ rfl;exact hk);simp only [go_sem]) | (apply lO E;(· simp only [go_sem]);(· rfl);(· intro h h' hk;(try simp only [bq] at h h');refine ae E (c2) rfl (by simp only [↓h,↓h',go_sem]<;>rfl) (by simp) ?_;rintro _ rfl;exact hk);simp only [go_sem]))
  repeat (first
   | (apply fg E;(· simp only [go_sem]);(· intro h;(try simp only [bq] at h);simp only [↓h,go_sem];rfl);simp only [go_sem])
   | (apply cD E;(· simp only [go_sem]);(· intro h;(try simp only [bq] at h);simp only [↓h,go_sem];rfl);(· intro h;(try simp only [bq] at h);simp only [↓h,go_sem];rfl);simp only [go_sem])
   | (apply cC E;(· simp only [go_sem]);(· rfl);(· intro h h';(try simp only [bq] at h h');simp only [↓h,↓h',go_sem];rfl);simp only [go_sem])
   | (apply bC E;(· simp only [go_sem]);(· rfl);(· intro h h';(try simp only [bq] at h h');simp only [↓h,↓h',go_sem];rfl);(· intro h h';(try simp only [bq] at h h');simp only [↓h,↓h',go_sem];rfl);simp only [go_sem])
   | (apply eI E;(· decide);simp only [go_sem]))
  (first | (apply nO E;(· simp only [go_sem]);(· intro h hk;(try simp only [bq] at h);refine ae E (c3) rfl (by simp only [↓h,go_sem]<;>rfl) (by simp) ?_;rintro _ rfl;exact hk);simp only [go_sem]) | (apply lO E;(· simp only [go_sem]);(· rfl);(· intro h h' hk;(try simp only [bq] at h h');refine ae E (c3) rfl (by simp only [↓h,↓h',go_sem]<;>rfl) (by simp) ?_;rintro _ rfl;exact hk);simp only [go_sem]))
  repeat (first
   | (apply fg E;(· simp only [go_sem]);(· intro h;(try simp only [bq] at h);simp only [↓h,go_sem];rfl);simp only [go_sem])
   | (apply cD E;(· simp only [go_sem]);(· intro h;(try simp only [bq] at h);simp only [↓h,go_sem];rfl);(· intro h;(try simp only [bq] at h);simp only [↓h,go_sem];rfl);simp only [go_sem])
   | (apply cC E;(· simp only [go_sem]);(· rfl);(· intro h h';(try simp only [bq] at h h');simp only [↓h,↓h',go_sem];rfl);simp only [go_sem])
   | (apply bC E;(· simp only [go_sem]);(· rfl);(· intro h h';(try simp only [bq] at h h');simp only [↓h,↓h',go_sem];rfl);(· intro h h';(try simp only [bq] at h h');simp only [↓h,↓h',go_sem];rfl);simp only [go_sem])
   | (apply eI E;(· decide);simp only [go_sem]))
  (first | (apply nO E;(· simp only [go_sem]);(· intro h hk;(try simp only [bq] at h);refine ae E (c4) rfl (by simp only [↓h,go_sem]<;>rfl) (by simp) ?_;rintro _ rfl;exact hk);simp only [go_sem]) | (apply lO E;(· simp only [go_sem]);(· rfl);(· intro h h' hk;(try simp only [bq] at h h');refine ae E (c4) rfl (by simp only [↓h,↓h',go_sem]<;>rfl) (by simp) ?_;rintro _ rfl;exact hk);simp only [go_sem]))
  repeat (first
   | (apply fg E;(· simp only [go_sem]);(· intro h;(try simp only [bq] at h);simp only [↓h,go_sem];rfl);simp only [go_sem])
   | (apply cD E;(· simp only [go_sem]);(· intro h;(try simp only [bq] at h);simp only [↓h,go_sem];rfl);(· intro h;(try simp only [bq] at h);simp only [↓h,go_sem];rfl);simp only [go_sem])
   | (apply cC E;(· simp only [go_sem]);(· rfl);(· intro h h';(try simp only [bq] at h h');simp only [↓h,↓h',go_sem];rfl);simp only [go_sem])
   | (apply bC E;(· simp only [go_sem]);(· rfl);(· intro h h';(try simp only [bq] at h h');simp only [↓h,↓h',go_sem];rfl);(· intro h h';(try simp only [bq] at h h');simp only [↓h,↓h',go_sem];rfl);simp only [go_sem])
   | (apply eI E;(· decide);simp only [go_sem]))
  have g':¬ (n.k<1∨14<n.k∨n.pos<0∨1048576<n.pos):=by
   simp only [Bool.or_eq_false_iff,decide_eq_false_iff_not] at g
   omega
  rw [← hb,decide_eq_true (show 1≤n.k by omega),decide_eq_true (show n.k≤14 by omega),decide_eq_true (show 0≤n.pos by omega),decide_eq_true (show n.pos≤1048576 by omega)]
  rfl
end Go.Proofs.YtejpnabbmgpmaaaGreat

namespace Go.Proofs.YtejpnabbmgpmaaaGreat
open Go.Ab
def bump (cs:List Int) (k:Int):List Int:=cs.set k.toNat (cs.getD k.toNat 0+1)
def bumps (cs ks:List Int):List Int:=ks.foldl bump cs
theorem uA (cs:List Int) (k:Int):(bump cs k).length=cs.length:=by simp [bump]
theorem fR (ks:List Int):∀ cs:List Int,(bumps cs ks).length=cs.length:=by
 induction ks with
 | nil=>intro cs;rfl
 | cons k r ih=>intro cs;show (bumps (bump cs k) r).length=_;rw [ih,uA]
theorem vl (cs ks:List Int) (k:Int):bumps cs (ks++[k])=bump (bumps cs ks) k:=by simp [bumps]
def Bd (M:Nat) (cs:List Int):Prop:=∀ c∈cs,0≤c∧c≤(M:Int)
theorem Bd.bump {M:Nat} {cs:List Int} (h:Bd M cs) (k:Int):Bd (M+1) (bump cs k):=by
 intro c hc
 rcases List.mem_or_eq_of_mem_set hc with hc | hc
 ·have:=h c hc;omega
 ·by_cases hk:k.toNat<cs.length
  ·have:=h cs[k.toNat] (List.getElem_mem hk)
   rw [hc,show cs.getD k.toNat 0=cs[k.toNat] by simp [hk]]
   omega
  ·rw [hc,show cs.getD k.toNat 0=0 by simp [hk]]
   omega
theorem Bd.bumps {ks:List Int}:∀ {M:Nat} {cs:List Int},Bd M cs→Bd (M+ks.length) (bumps cs ks):=by
 induction ks with
 | nil=>intro M cs h;exact h
 | cons k r ih =>
   intro M cs h
   have:=ih (h.bump k)
   rw [List.length_cons]
   intro c hc
   have:=this c hc
   omega
theorem Bd.get {M:Nat} {cs:List Int} (h:Bd M cs) (i:Nat):0≤cs.getD i 0∧cs.getD i 0≤(M:Int):=by
 by_cases hi:i<cs.length
 ·rw [show cs.getD i 0=cs[i] by simp [hi]];exact h _ (List.getElem_mem hi)
 ·rw [show cs.getD i 0=0 by simp [hi]];omega
def inB (i:Nat) (k:Int):Bool:=decide (0≤k) && decide (k<(i:Int))
theorem G7 {G} (ns:List EN) (i:Nat) (cs:List Int) (M:Nat) (hi:i<ns.length) (hn:ns.length≤1000000) (hc:cs.length=ns.length) (hl:(ndE ns i).l.length≤1000000) (hM:Bd M cs) (hM2:M≤1000000000000) :
  HCall Tryz.prog G 59 [.d (exD ns),.d (i64 i),.vw [100] 0 ns.length] [([100],.arr none (cs.map i64))] [100]
   (fun r hp'=>∃ cs':List Int,cs'.length=ns.length∧(dZ ns i=true→cs'=bumps cs (ah (ndE ns i)))∧r=.d (.bool (dZ ns i))∧hp'=[([100],.arr none (cs'.map i64))]):=by
 have hg:=aN hi
 obtain ⟨n,hne⟩:∃ n,n=ndE ns i:=⟨_,rfl⟩
 rw [← hne] at hl hg ⊢
 have hkl:=aV n
 have hwl:aG n≤1000003:=by unfold aG;have:=bJ n.k;split<;>omega
 obtain ⟨K,hK⟩:∃ K,K=ah n:=⟨_,rfl⟩
 have hlk:dZ ns i=(K.all (inB i) && (decide (n.k≠8) || decide ((ndE ns n.a.toNat).k=5))):=by
  unfold dZ inB
  rw [← hne,← hK]
 rw [hlk]
 have hkc:=dr (G:=G) n (by omega)
 rw [← hK] at hkc hkl ⊢
 unfold exD
 refine aq Tryz.func59 rfl (by decide +kernel) (by simp [Tryz.ntmps59]) (veil fun E=>?_)
 simp only [go_sem]
 refine ⟨⟨by omega,by omega⟩,?_⟩
 rw [hg]
 simp only [go_sem]
 refine ab E [.d (enD n)] [] [] hkc rfl rfl ⟨by simp only [go_sem],by rw [aa];decide⟩ rfl (by simp only [go_sem]) (by simp only [go_sem]) ?_
 rintro _ _ ⟨rfl,rfl⟩
 simp only [go_sem]
 refine fF E [14,0] none (K.map i64) rfl ?_
 simp only [go_sem]
 refine cM E (X:={ q:Nat // q≤K.length∧(K.take q).all (inB i)=true }) (fun x=>[(1,.d (i64 i)),(2,.vw [100] 0 ns.length),(3,.at [3] 0),(6,.d (.bool false)),(14,.d (.sl none (K.map i64))),(15,.d (i64 K.length)),(16,.d (i64 x.1))])
  (fun x=>[([100],.arr none ((bumps cs (K.take x.1)).map i64)),([3],.box [.d (.sl (some 9) (ns.map enD))])]) [3,100] (fun x=>K.length-x.1) ⟨0,by simp⟩ ?_ ?_
 ·simp only [go_sem]
  all_goals rfl
 rintro ⟨q,hq,hall⟩ E0
 refine bb E0 fun Q' hQ E'=>?_
 simp only at hq hall ⊢
 simp only [go_sem]
 refine ai E' (fun g1=>?_) (fun g1=>?_)<;>simp only [go_sem]
 ·have hq':q<K.length:=by omega
  refine ⟨⟨by omega,by omega⟩,?_⟩
  rw [bk hq',show K.getD q 0=K[q] by simp [hq']]
  simp only [go_sem]
  repeat (first
   | (apply fg E';(· simp only [go_sem]);(· intro h;(try simp only [bq] at h);simp only [↓h,go_sem];rfl);simp only [go_sem])
   | (apply cD E';(· simp only [go_sem]);(· intro h;(try simp only [bq] at h);simp only [↓h,go_sem];rfl);(· intro h;(try simp only [bq] at h);simp only [↓h,go_sem];rfl);simp only [go_sem])
   | (apply cC E';(· simp only [go_sem]);(· rfl);(· intro h h';(try simp only [bq] at h h');simp only [↓h,↓h',go_sem];rfl);simp only [go_sem])
   | (apply bC E';(· simp only [go_sem]);(· rfl);(· intro h h';(try simp only [bq] at h h');simp only [↓h,↓h',go_sem];rfl);(· intro h h';(try simp only [bq] at h h');simp only [↓h,↓h',go_sem];rfl);simp only [go_sem])
   | (apply eI E';(· decide);simp only [go_sem]))
  refine aZ E' (fun g2=>?_) (fun g2=>?_)<;>simp only [go_sem]
  ·rw [hQ]
   simp only [go_sem]
   have g3:inB i K[q]=false:=by
    rw [Bool.eq_false_iff]
    intro hc
    simp only [inB,Bool.and_eq_true,decide_eq_true_eq] at hc
    simp only [Bool.or_eq_true,decide_eq_true_eq] at g2
    omega
   have ha:K.all (inB i)=false:=List.all_eq_false.2 ⟨_,List.getElem_mem hq',by rw [g3];decide⟩
   refine ⟨_,_,[100],id,⟨bumps cs (K.take q),by rw [fR,hc],fun h=>by (rw [ha,Bool.false_and] at h;cases h),rfl,rfl⟩,?_⟩
   simp only [go_sem]
   rw [ha]
   rfl
  ·have g3:0≤K[q]∧K[q]<(i:Int):=by
    simp only [Bool.or_eq_false_iff,decide_eq_false_iff_not] at g2
    omega
   have g4:inB i K[q]=true:=by simp only [inB,decide_eq_true g3.1,decide_eq_true g3.2,Bool.and_self]
   have hbl:=fR (K.take q) cs
   have hbd:=(hM.bumps (ks:=K.take q)).get K[q].toNat
   have htl:(K.take q).length≤1000003:=by rw [List.length_take];omega
   refine ⟨⟨by omega,by omega⟩,?_⟩
   rw [bk (by omega)]
   simp only [go_sem]
   refine ⟨⟨by omega,by omega⟩,?_⟩
   rw [ak (n:=(bumps cs (K.take q)).getD K[q].toNat 0+1) ⟨by omega,by omega⟩,ak (n:=(q:Int)+1) ⟨by omega,by omega⟩]
   rw [show (List.map i64 (bumps cs (K.take q))).set K[q].toNat (.int .i64 ((bumps cs (K.take q)).getD K[q].toNat 0+1))=(bumps cs (K.take (q+1))).map i64 by
    rw [List.take_succ_eq_append_getElem hq',vl];unfold bump;rw [List.map_set]]
   rw [hQ]
   simp only [go_sem]
   refine ⟨⟨q+1,by omega,by rw [List.take_succ_eq_append_getElem hq',List.all_append,hall];simpa using g4⟩,by show K.length-(q+1)<_;omega,?_⟩
   first | rfl | exact ⟨rfl,rfl⟩
 ·rw [hQ]
  have h3:q=K.length:=by omega
  subst h3
  rw [List.take_length] at *
  simp only [go_sem]
  refine aj mixed E fun X=>?_
  simp only [go_sem]
  refine ⟨⟨by omega,by omega⟩,?_⟩
  rw [hg]
  simp only [go_sem]
  refine HK X (fun g1=>?_) (fun g1=>?_)<;>simp only [go_sem]
  ·refine ⟨by decide +kernel,?_⟩
   refine ⟨_,_,[100],id,⟨bumps cs K,by rw [fR,hc],fun _=>rfl,rfl,rfl⟩,?_⟩
   simp only [go_sem]
   rw [hall,decide_eq_true (show n.k≠8 from g1)]
   rfl
  ·have h8:n.k=8:=by omega
   have hka:K=[n.a,n.b]:=by rw [hK];unfold ah;rw [h8];rfl
   have ha:0≤n.a∧n.a<(i:Int):=by
    rw [hka] at hall
    simp only [List.all_cons,inB,Bool.and_eq_true,decide_eq_true_eq] at hall
    exact hall.1
   rw [lr]
   simp only [go_sem]
   refine ⟨⟨by omega,by omega⟩,?_⟩
   rw [hg]
   simp only [go_sem]
   refine ⟨⟨by omega,by omega⟩,?_⟩
   rw [aN (show n.a.toNat<ns.length by omega)]
   simp only [go_sem]
   refine ⟨by decide +kernel,?_⟩
   refine ⟨_,_,[100],id,⟨bumps cs K,by rw [fR,hc],fun _=>rfl,rfl,rfl⟩,?_⟩
   simp only [go_sem]
   rw [hall,decide_eq_false g1]
   rfl
end Go.Proofs.YtejpnabbmgpmaaaGreat

namespace Go.Proofs.YtejpnabbmgpmaaaGreat
open Go.Ab
def dF:List (Name × Ob):=[([0],.boxT (some 316) [.d .nilp,.d .nils])]
def sQ (l:List UInt8):List (Name × Ob):=[([0],.boxT (some 316) [.at [0] 0,.vw [2] 0 l.length]),([2],.arrT (some 5) none (l.map byD))]
def cF (l:List UInt8):List (Name × Ob):=[([0],.boxT (some 316) [.at [0] 0,.vw [1] 0 l.length]),([1],.arrT (some 5) none (l.map byD))]
theorem noesc (v:Value) (w:World):(callFunc 339 #[v]).run Tryz.prog w=.ok (.value v) w:=by
 rw [run_callFunc_extern Tryz.func339 (by kernel_rfl) (by kernel_rfl) (by kernel_rfl) (e:=Extern.AbiNoEscape.same) (by kernel_rfl)]
 rw [Lib.run_noEscape]
 rfl
theorem IQ:(Tryz.prog.ti 349).k=.oth:=by kernel_rfl
theorem I8:Tryz.prog.underlying 349=some .unsafePointer:=by kernel_rfl
theorem A6 {G}:HCall Tryz.prog G 328 [.at [0] 0] [([0],.boxT (some 316) [.d .nilp,.vw [1] 0 0]),([1],.arrT (some 5) none [])] [0,1] (fun r hp'=>r=.tup []∧hp'=[([0],.boxT (some 316) [.at [0] 0,.vw [1] 0 0]),([1],.arrT (some 5) none [])]):=by
 refine aq Tryz.func328 rfl (by decide +kernel) (by simp [Tryz.ntmps328]) (veil fun E=>?_)
 simp only [go_sem]
 refine ru E (e:=316) true (by rw [qe]) (by simp only [go_sem]) rfl ?_
 simp only [go_sem]
 refine I3 E (e:=316) [0] 0 316 [.d .nilp,.vw [1] 0 0] (by rw [qe]) I8 (by kernel_rfl) (by simp only [go_sem]) rfl rfl (by decide) ?_
 simp only [go_sem]
 refine Gb E 339 (.at [0] 0) noesc (by simp only [go_sem]) rfl rfl ?_
 simp only [go_sem]
 simp only [IQ]
 simp only [go_sem]
 refine Iu E (e:=316) [0] 0 316 [.d .nilp,.vw [1] 0 0] (by rw [qe]) I8 (by kernel_rfl) (by simp only [go_sem]) rfl rfl 2 rfl (by kernel_rfl) ?_
 simp only [go_sem]
 refine ⟨_,_,[0,1],id,⟨rfl,rfl⟩,?_⟩
 simp only [go_sem]
theorem AX {G} (l:List UInt8):HCall Tryz.prog G 328 [.at [0] 0] (cF l) [0,1] (fun r hp'=>r=.tup []∧hp'=cF l):=by
 unfold cF
 refine aq Tryz.func328 rfl (by decide +kernel) (by simp [Tryz.ntmps328]) (veil fun E=>?_)
 simp only [go_sem]
 refine ru E (e:=316) false (by rw [qe]) (by simp only [go_sem]) rfl ?_
 simp only [go_sem]
 refine Fo E (e:=316) [0] 0 (by rw [qe]) (by kernel_rfl) (by simp only [go_sem]) rfl rfl rfl ?_
 simp only [go_sem]
 refine ⟨_,_,[0,1],id,⟨rfl,rfl⟩,?_⟩
 simp only [go_sem]
theorem tK {G} (c:UInt8):HCall Tryz.prog G 302 [.at [0] 0,.d (byD c)] dF [0] (fun r hp'=>r=.d .nili∧hp'=sQ [c]):=by
 have h0:=A6 (G:=G)
 unfold dF sQ byD
 refine aq Tryz.func302 rfl (by decide +kernel) (by simp [Tryz.ntmps302]) (veil fun E=>?_)
 simp only [go_sem]
 refine Ga E [0] 1 1 (some 316) (some 5) none [.d .nilp,.d .nils] rfl rfl (by rw [aa];decide) ?_
 refine ab E [.at [0] 0] [([0],.boxT (some 316) [.d .nilp,.vw [1] 0 0]),([1],.arrT (some 5) none [])] [0,1] h0 rfl rfl ⟨by simp only [go_sem],by show ¬ _∈[1,0];decide⟩ rfl (by simp only [go_sem]) (by simp only [go_sem]) ?_
 rintro _ _ ⟨rfl,rfl⟩
 simp only [go_sem]
 refine qH E (e:=5) (some 5) [1] [13] [] [.int .u8 (c.toNat:Nat)] (by rw [Du]) (by rw [ti5];rfl) (by rw [ti5];rfl) (by rw [ti5];rfl) rfl ⟨by simp only [go_sem],by rw [aa];decide⟩ rfl rfl rfl rfl (by rw [ti5];simp [TI.by1]) ?_
 simp only [go_sem]
 refine ⟨_,_,[0,1,2],tau [([2],[14])],⟨rfl,rfl⟩,?_⟩
 simp only [go_sem]
theorem sY {G} (l:List UInt8) (c:UInt8) (hl:l.length≤1000000):HCall Tryz.prog G 302 [.at [0] 0,.d (byD c)] (cF l) [0,1] (fun r hp'=>r=.d .nili∧hp'=sQ (l++[c])):=by
 have h0:=AX (G:=G) l
 unfold cF at *
 unfold sQ
 refine aq Tryz.func302 rfl (by decide +kernel) (by simp [Tryz.ntmps302]) (veil fun E=>?_)
 simp only [go_sem]
 refine ab E [.at [0] 0] [([0],.boxT (some 316) [.at [0] 0,.vw [1] 0 l.length]),([1],.arrT (some 5) none (l.map byD))] [0,1] h0 rfl rfl ⟨by simp only [go_sem],by rw [aa];decide⟩ rfl (by simp only [go_sem]) (by simp only [go_sem]) ?_
 rintro _ _ ⟨rfl,rfl⟩
 simp only [go_sem]
 rw [show byD c=.int .u8 (c.toNat:Nat) from rfl]
 simp only [go_sem]
 refine ⟨Nat.le_refl _,?_⟩
 have hlm:(l.map byD).length=l.length:=by simp
 refine qH E (d:=14) (e:=5) (some 5) [1] [13] (l.map byD) [.int .u8 (c.toNat:Nat)] (by rw [Du]) (by rw [ti5];rfl) (by rw [ti5];rfl) (by rw [ti5];rfl) rfl ⟨by simp only [go_sem],by rw [aa];decide⟩ (by rw [hlm];rfl) rfl rfl rfl (by rw [ti5,hlm];simp [TI.by1];omega) ?_
 rw [hlm,show l.map byD++[.int .u8 (c.toNat:Nat)]=(l++[c]).map byD by simp [byD]]
 simp only [go_sem]
 refine ⟨_,_,[0,1,2],tau [([2],[14])],⟨rfl,rfl⟩,?_⟩
 rw [show (l++[c]).length=l.length+1 by simp]
 simp only [go_sem]
theorem AU {G}:HCall Tryz.prog G 299 [.at [0] 0] dF [0] (fun r hp'=>r=.d (i64 0)∧hp'=dF):=by
 unfold dF
 refine aq Tryz.func299 rfl (by decide +kernel) (by simp [Tryz.ntmps299]) (veil fun E=>?_)
 simp only [go_sem]
 refine ⟨_,_,[0],id,⟨rfl,rfl⟩,?_⟩
 simp only [go_sem]
theorem CP {G} (l:List UInt8):HCall Tryz.prog G 299 [.at [0] 0] (cF l) [0,1] (fun r hp'=>r=.d (i64 l.length)∧hp'=cF l):=by
 unfold cF
 refine aq Tryz.func299 rfl (by decide +kernel) (by simp [Tryz.ntmps299]) (veil fun E=>?_)
 simp only [go_sem]
 refine ⟨_,_,[0,1],id,⟨rfl,rfl⟩,?_⟩
 simp only [go_sem]
theorem Cv {G}:HCall Tryz.prog G 300 [.at [0] 0] dF [0] (fun r hp'=>r=.d (.str [])∧hp'=dF):=by
 unfold dF
 refine aq Tryz.func300 rfl (by decide +kernel) (by simp [Tryz.ntmps300]) (veil fun E=>?_)
 simp only [go_sem]
 refine jI 10 mixed E (by simp only [List.take_succ_cons,List.take_zero];exact rfl) (by simp only [List.drop_succ_cons,List.drop_zero];exact rfl) rfl rfl (by decide +kernel) fun X=>?_
 simp only [go_sem]
 refine bS X (d:=4) [0] 0 (some 316) [.d .nilp,.d .nils] (by simp only [go_sem]) rfl rfl ?_
 simp only [go_sem]
 refine HW X (d:=7) (by simp only [go_sem]) rfl ?_
 simp only [go_sem]
 refine bS X (d:=9) [0] 0 (some 316) [.d .nilp,.d .nils] (by simp only [go_sem]) rfl rfl ?_
 simp only [go_sem]
 refine ⟨by decide +kernel,?_⟩
 refine FZ E (by simp only [go_sem]) rfl rfl ?_
 simp only [go_sem]
 refine ⟨_,_,[0],id,⟨rfl,rfl⟩,?_⟩
 simp only [go_sem]
theorem Hy:Tryz.prog.cellsOf 5=1:=by kernel_rfl
theorem JO:Tryz.prog.underlying 341=some (.pointer 5):=by kernel_rfl
theorem CT {G} (l:List UInt8) (h0:l≠[]) (hl:l.length≤1000000):HCall Tryz.prog G 300 [.at [0] 0] (cF l) [0,1] (fun r hp'=>r=.d (.str l)∧hp'=[]):=by
 unfold cF
 refine aq Tryz.func300 rfl (by decide +kernel) (by simp [Tryz.ntmps300]) (veil fun E=>?_)
 simp only [go_sem]
 refine jI 10 mixed E (by simp only [List.take_succ_cons,List.take_zero];exact rfl) (by simp only [List.drop_succ_cons,List.drop_zero];exact rfl) rfl rfl (by decide +kernel) fun X=>?_
 simp only [go_sem]
 refine bS X (d:=4) [0] 0 (some 316) [.at [0] 0,.vw [1] 0 l.length] (by simp only [go_sem]) rfl rfl ?_
 simp only [go_sem]
 refine IM X (d:=7) [1] (some 5) none (l.map byD) l.length (by simp only [go_sem]) rfl rfl (List.length_pos_iff.2 h0) ?_
 simp only [go_sem]
 refine bS X (d:=9) [0] 0 (some 316) [.at [0] 0,.vw [1] 0 l.length] (by simp only [go_sem]) rfl rfl ?_
 simp only [go_sem]
 refine ⟨by decide +kernel,?_⟩
 refine GY E (e:=5) [1] l (by simp only [go_sem]) JO Hy h0 (by omega) rfl rfl rfl ?_
 simp only [go_sem]
 refine ⟨_,_,[0,1],id,⟨rfl,rfl⟩,?_⟩
 simp only [go_sem]
end Go.Proofs.YtejpnabbmgpmaaaGreat

namespace Go.Proofs.YtejpnabbmgpmaaaGreat
open Go.Ab
theorem ra (r:List UInt8):(fI r).2≤r.length:=by
 unfold fI
 (repeat' split)<;>simp
theorem vp:∀ (m:Nat) (r:List UInt8) (i:Nat) (acc:List UInt8),(dQ m r i acc).2.2=0→i+1≤(dQ m r i acc).2.1∧(dQ m r i acc).2.1≤i+r.length
 | 0,_,_,_,h=>by simp [dQ] at h
 | _+1,[],_,_,h=>by simp [dQ] at h
 | m+1,c::r,i,acc,h=>by
   unfold dQ at h ⊢
   split at h
   ·rename_i hc
    rw [if_pos hc]
    split at h
    ·simp at h
    ·rename_i h2;rw [if_neg h2];simp only [List.length_cons];omega
   rename_i hc
   rw [if_neg hc]
   split at h
   ·rename_i h1
    rw [if_pos h1]
    split at h
    ·simp at h
    ·rename_i h2
     rw [if_neg h2]
     have ih:=vp m _ _ _ h
     have:=ra r
     rw [List.length_drop] at ih
     simp only [List.length_cons];omega
   rename_i h1
   rw [if_neg h1]
   split at h
   ·rename_i h2
    rw [if_pos h2]
    have ih:=vp m _ _ _ h
    simp only [List.length_cons];omega
   ·simp at h
theorem Et {s:List UInt8} (h:(cS s).2.2=0):1≤(cS s).2.1∧(cS s).2.1≤s.length:=by
 cases s with
 | nil=>simp [cS] at h
 | cons c r =>
   simp only [cS] at h ⊢
   by_cases hc:c=34
   ·rw [if_pos hc] at h ⊢
    have:=vp _ _ _ _ h
    simp only [List.length_cons];omega
   ·rw [if_neg hc] at h;simp at h
theorem kM (l:List UInt8):cz l≤l.length:=by
 cases l with
 | nil=>simp [cz]
 | cons c r =>
   rw [gC (by simp)]
   have:=w7 ((c::r).drop 1)
   split
   ·simp only [List.drop_succ_cons,List.drop_zero] at this;simp;omega
   ·omega
theorem rM:∀ l:List UInt8,kz l≤l.length
 | []=>Nat.le_refl _
 | c::r=>by
   unfold kz
   have:=rM r
   split<;>simp
   omega
theorem gx {s p:List UInt8} (h:bp s p=true):p.length≤s.length:=by
 simp only [bp,Bool.and_eq_true,decide_eq_true_eq] at h
 exact h.1
theorem C3 {s:List UInt8} (hs:s≠[]) (h:(dG s).e=0):1≤(dG s).n∧(dG s).n≤s.length:=by
 have h0:=List.length_pos_iff.2 hs
 unfold dG at h ⊢
 split at h
 ·rename_i hw
  rw [if_pos hw]
  unfold nM at h ⊢
  have:=kM s
  split at h
  ·simp [dU] at h
  rename_i h1
  rw [if_neg h1]
  (repeat' split)<;>(simp only;omega)
 rename_i hw
 rw [if_neg hw]
 split at h
 ·rename_i h1
  rw [if_pos h1]
  unfold ux at h ⊢
  split at h
  ·simp [dU] at h
  rename_i h2
  rw [if_neg h2]
  split at h
  ·simp [dU] at h
  rename_i h3
  rw [if_neg h3]
  have:=kM (s.drop 1)
  rw [List.length_drop] at this
  have h4:¬ cz (s.drop 1)=0:=fun e=>h2 (.inl e)
  simp only;omega
 rename_i h1
 rw [if_neg h1]
 split at h
 ·rename_i h2
  rw [if_pos h2]
  unfold AA
  have:=rM (s.drop 1)
  rw [List.length_drop] at this
  simp only;omega
 rename_i h2
 rw [if_neg h2]
 split at h
 ·rename_i h3
  rw [if_pos h3]
  exact Et h
 rename_i h3
 rw [if_neg h3]
 unfold m6 at h ⊢
 split at h
 ·rename_i h4
  rw [if_pos h4]
  simp only [Bool.or_eq_true] at h4
  rcases h4 with h4 | h4
  ·have:=gx h4;simp at this;simp only;omega
  ·have:=gx h4;simp at this;simp only;omega
 rename_i h4
 rw [if_neg h4]
 split at h
 ·simp [dU] at h
 ·rename_i h5;rw [if_neg h5];simp only;omega
theorem xf:∀ (m:Nat) (s:List UInt8) (at':Nat),∀ q∈ec m s at',q.1≤at'+s.length
 | 0,_,_,_,h=>by simp [ec] at h
 | m+1,s,at',q,h=>by
   unfold ec at h
   split at h
   ·cases h
   rename_i hd
   have h0:=List.length_pos_iff.2 hd
   rw [List.length_drop] at h0
   split at h
   ·rw [List.mem_singleton.1 h];simp only;omega
   rename_i he
   have hn:=C3 hd (by simpa using he)
   rw [List.length_drop] at hn
   rcases List.mem_cons.1 h with rfl | h
   ·simp only;omega
   ·have:=xf m _ _ q h
    simp only [List.length_drop] at this
    omega
theorem kC:∀ (m:Nat) (s:List UInt8) (at':Nat),(ec m s at').length≤s.length
 | 0,_,_=>by simp [ec]
 | m+1,s,at'=>by
   unfold ec
   split
   ·simp
   rename_i hd
   have h0:=List.length_pos_iff.2 hd
   rw [List.length_drop] at h0
   split
   ·simp;omega
   rename_i he
   have hn:=C3 hd (by simpa using he)
   rw [List.length_drop] at hn
   have:=kC m ((s.drop (bx s)).drop (dG (s.drop (bx s))).n) (at'+bx s+(dG (s.drop (bx s))).n)
   simp only [List.length_drop,List.length_cons] at this ⊢
   omega
theorem uQ:∀ {l:List (Nat × Fnd)} {q:Nat × Int},kI l=some q→∃ x∈l,x.1=q.1
 | [],_,h=>by cases h
 | a::r,q,h=>by
   unfold kI at h
   split at h
   ·cases h;exact ⟨a,List.mem_cons_self,rfl⟩
   ·obtain ⟨x,hx,e⟩:=uQ h
    exact ⟨x,List.mem_cons_of_mem _ hx,e⟩
theorem su:∀ {l:List (Nat × Fnd)} {q:Nat × Int},kI l=some q→q.2≠0
 | [],_,h=>by cases h
 | a::r,q,h=>by
   unfold kI at h
   split at h
   ·rename_i g;cases h;exact g
   ·exact su h
theorem Ap (s:List UInt8):(da s).2.1≤s.length∧(∀ t∈(da s).1,0≤t.pos∧t.pos≤s.length)∧(da s).1.length≤s.length∧((da s).2.2=0→(da s).2.1=s.length):=by
 have hin:=xf s.length.succ s 0
 unfold da
 split
 ·rename_i i e h
  obtain ⟨x,hx,hxe⟩:=uQ h
  have:=hin x hx
  have:=su h
  refine ⟨by simp only at *;omega,fun _ h=>(by cases h),Nat.zero_le _,fun h=>absurd h this⟩
 ·refine ⟨Nat.le_refl _,fun t ht=>?_,?_,fun _=>rfl⟩
  ·obtain ⟨q,hq,rfl⟩:=List.mem_map.1 ht
   have:=hin q hq
   show 0≤(q.1:Int)∧(q.1:Int)≤_
   omega
  ·rw [List.length_map];exact kC _ _ _
end Go.Proofs.YtejpnabbmgpmaaaGreat

namespace Go.Proofs.YtejpnabbmgpmaaaGreat
open Go.Ab
theorem Hb (l:List UInt8) (c:UInt8) (w:World):(callFunc 296 #[.string ⟨l.toArray⟩,.int .u8 (c.toNat:Nat)]).run Tryz.prog w=.ok (.value (.int .i64 (Lib.indexByte l c))) w:=by
 rw [run_callFunc_extern Tryz.func296 (by kernel_rfl) (by kernel_rfl) (by kernel_rfl) (e:=Extern.BytealgIndexByte.indexByte) (by kernel_rfl)]
 rw [Lib.run_indexByteString]
 simp [Result.andThen]
theorem Ey {G} (l:List UInt8) (c:UInt8):HP Tryz.prog G 265 [.str l,u8 c] (fun r=>r=.d (i64 (Lib.indexByte l c))):=by
 unfold u8
 refine ao Tryz.func265 rfl (by decide +kernel) (by simp [Tryz.ntmps265]) (veil fun E=>?_)
 simp only [go_sem]
 refine Jq E 296 [.str l,.int .u8 (c.toNat:Nat)] [.string ⟨l.toArray⟩,.int .u8 (c.toNat:Nat)] (.int .i64 (Lib.indexByte l c)) (.int .i64 (Lib.indexByte l c)) rfl rfl (Hb l c) (by simp only [go_sem]) rfl rfl ?_
 simp only [go_sem]
theorem kP {G} (l:List UInt8) (c:UInt8):HP Tryz.prog G 214 [.str l,u8 c] (fun r=>r=.d (i64 (Lib.indexByte l c))):=by
 refine ao Tryz.func214 rfl (by decide +kernel) (by simp [Tryz.ntmps214]) (veil fun E=>?_)
 simp only [go_sem]
 refine ae E (Ey l c) rfl rfl (by simp) ?_
 rintro _ rfl
 simp only [go_sem]
theorem xL {G} (s p:List UInt8):HP Tryz.prog G 269 [.str s,.str p] (fun r=>r=.d (.bool (bp s p))):=by
 refine ao Tryz.func269 rfl (by decide +kernel) (by simp [Tryz.ntmps269]) (veil fun E=>?_)
 simp only [go_sem]
 refine ae E (wO s p) rfl rfl (by simp) ?_
 rintro _ rfl
 simp only [go_sem]
theorem wQ {G} (c:UInt8):HP Tryz.prog G 303 [u8 c] (fun r=>r=.d (.bool (lK c))):=by
 unfold u8
 refine ao Tryz.func303 rfl (by decide +kernel) (by simp [Tryz.ntmps303]) (veil fun E=>?_)
 simp only [go_sem]
 repeat (first
  | (apply fg E;(· simp only [go_sem]);(· intro h;(try simp only [bq] at h);simp only [↓h,go_sem];rfl);simp only [go_sem])
  | (apply cD E;(· simp only [go_sem]);(· intro h;(try simp only [bq] at h);simp only [↓h,go_sem];rfl);(· intro h;(try simp only [bq] at h);simp only [↓h,go_sem];rfl);simp only [go_sem])
  | (apply cC E;(· simp only [go_sem]);(· rfl);(· intro h h';(try simp only [bq] at h h');simp only [↓h,↓h',go_sem];rfl);simp only [go_sem])
  | (apply bC E;(· simp only [go_sem]);(· rfl);(· intro h h';(try simp only [bq] at h h');simp only [↓h,↓h',go_sem];rfl);(· intro h h';(try simp only [bq] at h h');simp only [↓h,↓h',go_sem];rfl);simp only [go_sem])
  | (apply eI E;(· decide);simp only [go_sem]))
 have hp:(((decide (32≤((c.toNat:Nat):Int)) && decide (((c.toNat:Nat):Int)≤126)) && decide (¬ ((c.toNat:Nat):Int)=34)) && decide (¬ ((c.toNat:Nat):Int)=92))=lK c:=by
  unfold lK
  rw [Bool.eq_iff_iff];simp;omega
 rw [hp]
theorem fw {c:UInt8} (d:UInt8) (h:((c.toNat:Nat):Int)=(d.toNat:Nat)):c=d:=UInt8.toNat_inj.1 (by omega)
theorem bI {c:UInt8} (d:UInt8) (h:¬ ((c.toNat:Nat):Int)=(d.toNat:Nat)):¬ c=d:=fun e=>h (by rw [e])
def FJ (c:UInt8) (r:List UInt8):UInt8 × Nat:=if c=110 then (10,1) else if c=116 then (9,1) else if c=120 then (match r with | a::b::_=>if Lib.indexByte kV a<0∨Lib.indexByte kV b<0 then (0,0) else (UInt8.ofNat (16*Lib.indexByte kV a+Lib.indexByte kV b).toNat,3) | _=>(0,0)) else (0,0)
theorem BD (c:UInt8) (r:List UInt8):fI (c::r)=if c=34∨c=92 then (c,1) else FJ c r:=rfl
theorem Gd (c:UInt8) (r:List UInt8) (h:c=34∨c=92):fI (c::r)=(c,1):=by rw [BD,if_pos h]
theorem FB (c:UInt8) (r:List UInt8) (h:¬ (c=34∨c=92)):fI (c::r)=FJ c r:=by rw [BD,if_neg h]
theorem GH (c:UInt8):∀ l:List UInt8,Lib.indexByte l c<l.length∨l=[]
 | []=>.inr rfl
 | b::l=>by
   left
   have:=GH c l
   unfold Lib.indexByte
   split
   ·simp only [List.length_cons];omega
   split
   ·simp only [List.length_cons];omega
   ·rcases this with h | h
    ·simp only [List.length_cons];omega
    ·rename_i h1 h2
     subst h
     exact absurd rfl h2
theorem Dq (c:UInt8):Lib.indexByte kV c<16:=by
 rcases GH c kV with h | h
 ·exact h
 ·cases h
theorem wZ {G} (s:List UInt8) (hl:s.length≤1000000):HP Tryz.prog G 301 [.str s] (fun r=>r=.tup [.d (u8 (fI s).1),.d (i64 (fI s).2)]):=by
 unfold u8
 refine ao Tryz.func301 rfl (by decide +kernel) (by simp [Tryz.ntmps301]) (veil fun E=>?_)
 simp only [go_sem]
 refine aZ E (fun h=>?_) (fun h=>?_)<;>simp only [go_sem]
 ·have h0:s=[]:=by simpa using h
  subst h0
  rfl
 cases s with
 | nil=>simp at h
 | cons c r =>
 have hc0:(c::r).getD 0 0=c:=rfl
 simp only [List.length_cons] at hl
 refine ⟨by simp,?_⟩
 rw [hc0]
 have key1:c=34∨c=92→fI (c::r)=(c,1):=Gd c r
 have key0:¬ (c=34∨c=92)→fI (c::r)=FJ c r:=FB c r
 refine ai E (fun h1=>?_) (fun h1=>?_)<;>simp only [go_sem]
 ·refine ai E (fun _=>?_) (fun h2=>absurd h1 h2)<;>simp only [go_sem]
  refine ⟨by simp,?_⟩
  rw [key1 (.inl (fw 34 h1))]
  rfl
 refine ai E (fun h2=>?_) (fun h2=>?_)<;>simp only [go_sem]
 ·refine ⟨by simp,?_⟩
  rw [key1 (.inr (fw 92 h2))]
  rfl
 have key:=key0 (fun h=>h.elim (bI 34 h1) (bI 92 h2))
 unfold FJ at key
 refine ai E (fun h3=>?_) (fun h3=>?_)<;>simp only [go_sem]
 ·rw [key,if_pos (fw 110 h3)];rfl
 rw [if_neg (bI 110 h3)] at key
 refine ai E (fun h4=>?_) (fun h4=>?_)<;>simp only [go_sem]
 ·rw [key,if_pos (fw 116 h4)];rfl
 rw [if_neg (bI 116 h4)] at key
 refine ai E (fun h5=>?_) (fun h5=>?_)<;>simp only [go_sem]
 rotate_left
 ·rw [key,if_neg (bI 120 h5)];rfl
 rw [if_pos (fw 120 h5)] at key
 refine ai E (fun h6=>?_) (fun h6=>?_)<;>simp only [go_sem]
 ·have h7:fI (c::r)=(0,0):=by
   match r,h6,key with
   | [],_,key=>exact key
   | [_],_,key=>exact key
   | _::_::_,h6,_=>simp only [List.length_cons] at h6;omega
  rw [h7];rfl
 obtain ⟨a,b,r',rfl⟩:∃ a b r',r=a::b::r':=by
  match r,h6 with
  | [],h6=>exact absurd (by simp) h6
  | [_],h6=>exact absurd (by simp) h6
  | a::b::r',_=>exact ⟨a,b,r',rfl⟩
 simp only at key
 refine aj mixed E fun X=>?_
 simp only [go_sem]
 have ha:=Dq a
 have hb:=Dq b
 refine ⟨by omega,?_⟩
 rw [show (c::a::b::r').getD 1 0=a from rfl]
 refine cP X (kP kV a) rfl rfl (by simp) ?_
 simp only [go_sem]
 refine ⟨by omega,?_⟩
 rw [show (c::a::b::r').getD 2 0=b from rfl]
 refine cP X (kP kV b) rfl rfl (by simp) ?_
 simp only [go_sem]
 generalize Lib.indexByte kV a=x at ha key
 generalize Lib.indexByte kV b=y at hb key
 refine ⟨by decide +kernel,?_⟩
 repeat (first
  | (apply fg E;(· simp only [go_sem]);(· intro h;(try simp only [bq] at h);simp only [↓h,go_sem];rfl);simp only [go_sem])
  | (apply cD E;(· simp only [go_sem]);(· intro h;(try simp only [bq] at h);simp only [↓h,go_sem];rfl);(· intro h;(try simp only [bq] at h);simp only [↓h,go_sem];rfl);simp only [go_sem])
  | (apply cC E;(· simp only [go_sem]);(· rfl);(· intro h h';(try simp only [bq] at h h');simp only [↓h,↓h',go_sem];rfl);simp only [go_sem])
  | (apply bC E;(· simp only [go_sem]);(· rfl);(· intro h h';(try simp only [bq] at h h');simp only [↓h,↓h',go_sem];rfl);(· intro h h';(try simp only [bq] at h h');simp only [↓h,↓h',go_sem];rfl);simp only [go_sem])
  | (apply eI E;(· decide);simp only [go_sem]))
 refine aZ E (fun h7=>?_) (fun h7=>?_)<;>simp only [go_sem]
 ·rw [key,if_pos (by simpa using h7)];rfl
 ·have h8:0≤x∧0≤y:=by
   have:¬ (x<0∨y<0):=by simpa using h7
   omega
  rw [key,if_neg (by omega),ak (n:=16*x) ⟨by omega,by omega⟩,ak ⟨by omega,by omega⟩]
  obtain ⟨n,hn⟩:∃ n:Nat,16*x+y=n:=⟨(16*x+y).toNat,by omega⟩
  rw [hn,Int.toNat_natCast]
  have h9:n<256:=by omega
  have h10:IntKind.u8.wrap (n:Int)=((UInt8.ofNat n).toNat:Nat):=by
   rw [UInt8.toNat_ofNat']
   simp [IntKind.wrap,IntKind.bits,IntKind.signed]
  rw [h10]
  rfl
end Go.Proofs.YtejpnabbmgpmaaaGreat

namespace Go.Proofs.YtejpnabbmgpmaaaGreat
open Go.Ab
def Db:List UInt8→List (Name × Ob)
 | []=>dF
 | c::r=>cF (c::r)
theorem jt (l:List UInt8) (c:UInt8):Db (l++[c])=cF (l++[c]):=by cases l<;>rfl
structure TkI (s:List UInt8) (i:Nat) (acc:List UInt8) (m:Nat):Prop where
 h1:1≤i
 hi:i≤s.length
 ha:acc.length≤i
 hm:(s.drop i).length<m
 he:dQ m (s.drop i) i acc=cS s
theorem TkI.init {c:UInt8} {r:List UInt8} (hc:c=34):TkI (c::r) 1 [] r.length.succ :=
 ⟨Nat.le_refl _,by simp,by simp,by simp,by simp only [List.drop_succ_cons,List.drop_zero,cS,if_pos hc]⟩
theorem TkI.fin {s:List UInt8} {i m:Nat} {acc:List UInt8} (h:TkI s i acc m) (hi:s.length≤i):cS s=([],0,5):=by
 rw [← h.he,List.drop_eq_nil_of_le hi]
 cases m<;>rfl
theorem TkI.cases {s:List UInt8} {i m:Nat} {acc:List UInt8} (h:TkI s i acc m) (hi:i<s.length):∃ m',m=m'+1∧s.drop i=s.getD i 0::s.drop (i+1):=by
 obtain ⟨m',rfl⟩:∃ m',m=m'+1:=⟨m-1,by have:=h.hm;omega⟩
 exact ⟨m',rfl,by rw [List.drop_eq_getElem_cons hi];simp [hi]⟩
theorem TkI.mark {s:List UInt8} {i m:Nat} {acc:List UInt8} (h:TkI s i acc m) (hi:i<s.length) (hc:s.getD i 0=34):cS s=if 200<acc.length then ([],0,7) else (acc,i+1,0):=by
 obtain ⟨m',rfl,hd⟩:=h.cases hi
 rw [← h.he,hd,dQ,if_pos hc]
theorem TkI.bad {s:List UInt8} {i m:Nat} {acc:List UInt8} (h:TkI s i acc m) (hi:i<s.length) (hc:¬ s.getD i 0=34) (hs:s.getD i 0=92) (he:(fI (s.drop (i+1))).2=0):cS s=([],0,5):=by
 obtain ⟨m',rfl,hd⟩:=h.cases hi
 rw [← h.he,hd,dQ,if_neg hc,if_pos hs,if_pos he]
theorem TkI.odd {s:List UInt8} {i m:Nat} {acc:List UInt8} (h:TkI s i acc m) (hi:i<s.length) (hc:¬ s.getD i 0=34) (hs:¬ s.getD i 0=92) (hp:lK (s.getD i 0)=false):cS s=([],0,5):=by
 obtain ⟨m',rfl,hd⟩:=h.cases hi
 rw [← h.he,hd,dQ,if_neg hc,if_neg hs,if_neg (by rw [hp];simp)]
theorem TkI.esc {s:List UInt8} {i m:Nat} {acc:List UInt8} (h:TkI s i acc m) (hi:i<s.length) (hc:¬ s.getD i 0=34) (hs:s.getD i 0=92) (he:¬ (fI (s.drop (i+1))).2=0) :
  TkI s (i+(fI (s.drop (i+1))).2+1) (acc++[(fI (s.drop (i+1))).1]) (m-1):=by
 obtain ⟨m',rfl,hd⟩:=h.cases hi
 have hl:=ra (s.drop (i+1))
 rw [List.length_drop] at hl
 have hm:=h.hm
 have ha:=h.ha
 rw [List.length_drop] at hm
 refine ⟨by omega,by omega,by simp;omega,by rw [List.length_drop];omega,?_⟩
 rw [← h.he,hd,dQ,if_neg hc,if_pos hs,if_neg he,List.drop_drop,Nat.add_sub_cancel]
 congr 2
 omega
theorem TkI.plain {s:List UInt8} {i m:Nat} {acc:List UInt8} (h:TkI s i acc m) (hi:i<s.length) (hc:¬ s.getD i 0=34) (hs:¬ s.getD i 0=92) (hp:lK (s.getD i 0)=true):TkI s (i+1) (acc++[s.getD i 0]) (m-1):=by
 obtain ⟨m',rfl,hd⟩:=h.cases hi
 have hm:=h.hm
 have ha:=h.ha
 rw [List.length_drop] at hm
 refine ⟨by omega,by omega,by simp;omega,by rw [List.length_drop];omega,?_⟩
 rw [← h.he,hd,dQ,if_neg hc,if_neg hs,if_pos hp,Nat.add_sub_cancel]
set_option maxHeartbeats 1000000 in
theorem F7 {G} (s:List UInt8) (hl:s.length≤1000000):HP Tryz.prog G 268 [.str s] (fun r=>r=.tup [.d (.str (cS s).1),.d (i64 (cS s).2.1),.d (i64 (cS s).2.2)]):=by
 refine ao Tryz.func268 rfl (by decide +kernel) (by simp [Tryz.ntmps268]) (veil fun E=>?_)
 simp only [go_sem]
 cases s with
 | nil =>
   simp only [go_sem]
   rfl
 | cons c r =>
 refine cQ E (fun h=>absurd h (by simp)) (fun h=>?_)<;>simp only [go_sem]
 refine ⟨by simp,?_⟩
 refine ai E (fun h1=>?_) (fun h1=>?_)<;>simp only [go_sem]
 ·have h2:cS (c::r)=([],0,5):=by
   unfold cS
   simp only
   rw [if_neg (bI 34 h1)]
  rw [h2];rfl
 have hc:c=34:=Classical.byContradiction fun h=>h1 (fun e=>h (fw 34 e))
 obtain ⟨s,hs⟩:∃ s,s=c::r:=⟨_,rfl⟩
 have hI0:=TkI.init (r:=r) hc
 rw [← hs] at hl hI0
 simp only [← hs]
 refine a9 E (X:={ x:Nat × List UInt8 × Nat // TkI s x.1 x.2.1 x.2.2 }) (fun x=>[(0,.d (.str s)),(5,.at [0] 0),(6,.d (i64 x.1.1))]) (fun x=>Db x.1.2.1) [0,1] (fun x=>s.length-x.1.1) ⟨(1,[],r.length.succ),hI0⟩ (tau [([0],[5])]) ?_ ?_
 ·unfold Db dF
  simp only [go_sem]
 rintro ⟨⟨i,acc,m⟩,hI⟩ E0
 refine bb E0 fun Q' hQ E'=>?_
 simp only at hI ⊢
 have hi:=hI.hi
 have ha:=hI.ha
 cases acc with
 | nil =>
   simp only [Db]
   unfold dF
   simp only [go_sem]
   refine ai E' (fun h1=>?_) (fun h1=>?_)<;>simp only [go_sem]
   rotate_left
   ·rw [hQ]
    simp only [go_sem]
    rw [← hs,hI.fin (by omega)]
    rfl
   have h1':i<s.length:=by omega
   refine ⟨⟨by omega,by omega⟩,?_⟩
   refine ai E' (fun h2=>?_) (fun h2=>?_)<;>simp only [go_sem]
   ·have hmk:=hI.mark h1' (fw 34 h2)
    refine ab E' [.at [0] 0] dF [0] AU rfl rfl ⟨by simp only [go_sem],by rw [aa];decide⟩ rfl (by unfold dF;simp only [go_sem]) (by unfold dF;simp only [go_sem]) ?_
    rintro _ _ ⟨rfl,rfl⟩
    unfold dF
    simp only [go_sem]
    refine ab E' [.at [0] 0] dF [0] Cv rfl rfl ⟨by simp only [go_sem],by rw [aa];decide⟩ rfl (by unfold dF;simp only [go_sem]) (by unfold dF;simp only [go_sem]) ?_
    rintro _ _ ⟨rfl,rfl⟩
    unfold dF
    simp only [go_sem]
    rw [ak ⟨by omega,by omega⟩,hQ]
    simp only [go_sem]
    rw [← hs,hmk]
    rfl
   refine ai E' (fun h3=>?_) (fun h3=>?_)<;>simp only [go_sem]
   ·have h2n:=bI 34 h2
    have h3y:=fw 92 h3
    rw [ak (n:=(i:Int)+1) ⟨by omega,by omega⟩]
    refine ⟨⟨by omega,by omega⟩,?_⟩
    rw [show ((i:Int)+1).toNat=i+1 by omega,List.take_of_length_le (l:=s.drop (i+1)) (by rw [List.length_drop];omega)]
    have hel:=ra (s.drop (i+1))
    have hbad:=hI.bad h1' h2n h3y
    have hesc:=hI.esc h1' h2n h3y
    rw [List.length_drop] at hel
    refine ae E' (wZ (s.drop (i+1)) (by rw [List.length_drop];omega)) rfl rfl (by simp) ?_
    rintro _ rfl
    obtain ⟨y,n,hyn⟩:∃ y n,fI (s.drop (i+1))=(y,n):=⟨_,_,rfl⟩
    rw [hyn] at hel hbad hesc ⊢
    simp only at hel hbad hesc
    simp only [go_sem]
    refine ai E' (fun h4=>?_) (fun h4=>?_)<;>simp only [go_sem]
    ·rw [hQ]
     simp only [go_sem]
     rw [← hs,hbad (by omega)]
     rfl
    ·have hI2:=hesc (by omega)
     refine ab E' [.at [0] 0,.d (byD y)] dF [0] (tK y ) rfl rfl ⟨by simp only [go_sem],by rw [aa];decide⟩ rfl (by (unfold dF);simp only [go_sem]) (by (unfold dF);simp only [go_sem]) ?_
     rintro _ _ ⟨rfl,rfl⟩
     unfold sQ
     (unfold dF)
     simp only [go_sem]
     rw [ak (n:=(n:Int)+1) ⟨by omega,by omega⟩,ak ⟨by omega,by omega⟩,hQ]
     simp only [go_sem]
     refine ⟨⟨(i+n+1,[]++[y],m-1),hI2⟩,by show s.length-(i+n+1)<_;omega,tau [([1],[46,2])],?_⟩
     rw [show (⟨(i+n+1,[]++[y],m-1),hI2⟩:{ x:Nat × List UInt8 × Nat // TkI s x.1 x.2.1 x.2.2 }).1.2.1=[]++[y] from rfl,jt]
     unfold cF
     simp only [go_sem]
     rw [show ((i+n+1:Nat):Int)=(i:Int)+((n:Int)+1) by omega]
   ·have h2n:=bI 34 h2
    have h3n:=bI 92 h3
    refine ae E' (wQ (s.getD i 0)) rfl rfl (by simp) ?_
    rintro _ rfl
    simp only [go_sem]
    refine aZ E' (fun h4=>?_) (fun h4=>?_)<;>simp only [go_sem]
    ·have hI2:=hI.plain h1' h2n h3n h4
     refine ab E' [.at [0] 0,.d (byD (s.getD i 0))] dF [0] (tK (s.getD i 0) ) rfl rfl ⟨by simp only [go_sem],by rw [aa];decide⟩ rfl (by (unfold dF);simp only [go_sem]) (by (unfold dF);simp only [go_sem]) ?_
     rintro _ _ ⟨rfl,rfl⟩
     unfold sQ
     (unfold dF)
     simp only [go_sem]
     rw [ak ⟨by omega,by omega⟩,hQ]
     simp only [go_sem]
     refine ⟨⟨(i+1,[]++[s.getD i 0],m-1),hI2⟩,by show s.length-(i+1)<_;omega,tau [([1],[55,2])],?_⟩
     rw [show (⟨(i+1,[]++[s.getD i 0],m-1),hI2⟩:{ x:Nat × List UInt8 × Nat // TkI s x.1 x.2.1 x.2.2 }).1.2.1=[]++[s.getD i 0] from rfl,jt]
     unfold cF
     simp only [go_sem]
     all_goals rfl
    ·rw [hQ]
     simp only [go_sem]
     rw [← hs,hI.odd h1' h2n h3n h4]
     rfl
 | cons a0 acc0 =>
   simp only [Db]
   obtain ⟨acc,hacc⟩:∃ acc,acc=a0::acc0:=⟨_,rfl⟩
   have hne:acc≠[]:=by rw [hacc];simp
   rw [← hacc] at hI ha
   simp only [← hacc]
   unfold cF
   simp only [go_sem]
   refine ai E' (fun h1=>?_) (fun h1=>?_)<;>simp only [go_sem]
   rotate_left
   ·rw [hQ]
    simp only [go_sem]
    rw [← hs,hI.fin (by omega)]
    rfl
   have h1':i<s.length:=by omega
   refine ⟨⟨by omega,by omega⟩,?_⟩
   refine ai E' (fun h2=>?_) (fun h2=>?_)<;>simp only [go_sem]
   ·have hmk:=hI.mark h1' (fw 34 h2)
    refine ab E' [.at [0] 0] (cF acc) [0,1] (CP acc) rfl rfl ⟨by simp only [go_sem],by rw [aa];decide⟩ rfl (by unfold cF;simp only [go_sem]) (by unfold cF;simp only [go_sem]) ?_
    rintro _ _ ⟨rfl,rfl⟩
    unfold cF
    simp only [go_sem]
    refine ⟨Nat.le_refl _,?_⟩
    refine ai E' (fun h5=>?_) (fun h5=>?_)<;>simp only [go_sem]
    ·rw [hQ]
     simp only [go_sem]
     rw [← hs,hmk,if_pos (by omega)]
     rfl
    refine ab E' [.at [0] 0] (cF acc) [0,1] (CT acc hne (by omega)) rfl rfl ⟨by simp only [go_sem],by rw [aa];decide⟩ rfl (by unfold cF;simp only [go_sem]) (by unfold cF;simp only [go_sem]) ?_
    rintro _ _ ⟨rfl,rfl⟩
    unfold cF
    simp only [go_sem]
    rw [ak ⟨by omega,by omega⟩,hQ]
    simp only [go_sem]
    rw [← hs,hmk,if_neg (by omega)]
    rfl
   refine ai E' (fun h3=>?_) (fun h3=>?_)<;>simp only [go_sem]
   ·have h2n:=bI 34 h2
    have h3y:=fw 92 h3
    rw [ak (n:=(i:Int)+1) ⟨by omega,by omega⟩]
    refine ⟨⟨by omega,by omega⟩,?_⟩
    rw [show ((i:Int)+1).toNat=i+1 by omega,List.take_of_length_le (l:=s.drop (i+1)) (by rw [List.length_drop];omega)]
    have hel:=ra (s.drop (i+1))
    have hbad:=hI.bad h1' h2n h3y
    have hesc:=hI.esc h1' h2n h3y
    rw [List.length_drop] at hel
    refine ae E' (wZ (s.drop (i+1)) (by rw [List.length_drop];omega)) rfl rfl (by simp) ?_
    rintro _ rfl
    obtain ⟨y,n,hyn⟩:∃ y n,fI (s.drop (i+1))=(y,n):=⟨_,_,rfl⟩
    rw [hyn] at hel hbad hesc ⊢
    simp only at hel hbad hesc
    simp only [go_sem]
    refine ai E' (fun h4=>?_) (fun h4=>?_)<;>simp only [go_sem]
    ·rw [hQ]
     simp only [go_sem]
     rw [← hs,hbad (by omega)]
     rfl
    ·have hI2:=hesc (by omega)
     refine ab E' [.at [0] 0,.d (byD y)] (cF acc) [0,1] (sY acc y (by omega)) rfl rfl ⟨by simp only [go_sem],by rw [aa];decide⟩ rfl (by (unfold cF);simp only [go_sem]) (by (unfold cF);simp only [go_sem]) ?_
     rintro _ _ ⟨rfl,rfl⟩
     unfold sQ
     (unfold cF)
     simp only [go_sem]
     rw [ak (n:=(n:Int)+1) ⟨by omega,by omega⟩,ak ⟨by omega,by omega⟩,hQ]
     simp only [go_sem]
     refine ⟨⟨(i+n+1,acc++[y],m-1),hI2⟩,by show s.length-(i+n+1)<_;omega,tau [([1],[46,2])],?_⟩
     rw [show (⟨(i+n+1,acc++[y],m-1),hI2⟩:{ x:Nat × List UInt8 × Nat // TkI s x.1 x.2.1 x.2.2 }).1.2.1=acc++[y] from rfl,jt]
     unfold cF
     simp only [go_sem]
     rw [show ((i+n+1:Nat):Int)=(i:Int)+((n:Int)+1) by omega]
   ·have h2n:=bI 34 h2
    have h3n:=bI 92 h3
    refine ae E' (wQ (s.getD i 0)) rfl rfl (by simp) ?_
    rintro _ rfl
    simp only [go_sem]
    refine aZ E' (fun h4=>?_) (fun h4=>?_)<;>simp only [go_sem]
    ·have hI2:=hI.plain h1' h2n h3n h4
     refine ab E' [.at [0] 0,.d (byD (s.getD i 0))] (cF acc) [0,1] (sY acc (s.getD i 0) (by omega)) rfl rfl ⟨by simp only [go_sem],by rw [aa];decide⟩ rfl (by (unfold cF);simp only [go_sem]) (by (unfold cF);simp only [go_sem]) ?_
     rintro _ _ ⟨rfl,rfl⟩
     unfold sQ
     (unfold cF)
     simp only [go_sem]
     rw [ak ⟨by omega,by omega⟩,hQ]
     simp only [go_sem]
     refine ⟨⟨(i+1,acc++[s.getD i 0],m-1),hI2⟩,by show s.length-(i+1)<_;omega,tau [([1],[55,2])],?_⟩
     rw [show (⟨(i+1,acc++[s.getD i 0],m-1),hI2⟩:{ x:Nat × List UInt8 × Nat // TkI s x.1 x.2.1 x.2.2 }).1.2.1=acc++[s.getD i 0] from rfl,jt]
     unfold cF
     simp only [go_sem]
     all_goals rfl
    ·rw [hQ]
     simp only [go_sem]
     rw [← hs,hI.odd h1' h2n h3n h4]
     rfl
end Go.Proofs.YtejpnabbmgpmaaaGreat

namespace Go.Proofs.YtejpnabbmgpmaaaGreat
open Go.Ab
theorem BA {c:UInt8} {n:Nat} (hn:n<256):((c.toNat:Nat):Int)=(n:Int)↔c=UInt8.ofNat n:=by
 constructor
 ·intro h
  apply UInt8.toNat_inj.1
  rw [UInt8.toNat_ofNat']
  omega
 ·rintro rfl
  rw [UInt8.toNat_ofNat']
  omega
theorem tn {c:UInt8} (h:((c.toNat:Nat):Int)<48):bH c=false:=by
 unfold bH;rw [decide_eq_false (by omega)];rfl
theorem oJ {c:UInt8} (h:57<((c.toNat:Nat):Int)):bH c=false:=by
 unfold bH;rw [decide_eq_false (p:=c.toNat≤57) (by omega),Bool.and_false]
theorem uw {c:UInt8} (h1:¬ ((c.toNat:Nat):Int)<48) (h2:¬ 57<((c.toNat:Nat):Int)):bH c=true:=by
 unfold bH;rw [decide_eq_true (by omega),decide_eq_true (by omega)];rfl
theorem lH {l:List UInt8} (h:1≤l.length):l.head?=some (l.getD 0 0):=by
 cases l with
 | nil=>simp at h
 | cons c r=>rfl
end Go.Proofs.YtejpnabbmgpmaaaGreat

namespace Go.Proofs.YtejpnabbmgpmaaaGreat
open Go.Ab
theorem z5 (s:ByteArray) (pos:Nat) (hb:128≤(s.get! (pos+0)).toNat):58≤(Utf8.decode s pos).1:=by
 unfold Utf8.decode
 simp only [Utf8.runeError]
 repeat' split
 all_goals (try simp only [Bool.and_eq_true,decide_eq_true_eq] at *)
 all_goals omega
theorem oh {l:List UInt8} {pos:Nat} (h:pos<l.length):(Utf8.decode ⟨l.toArray⟩ pos=(l[pos].toNat,1))∨(58≤(Utf8.decode ⟨l.toArray⟩ pos).1∧bH l[pos]=false):=by
 have hs:pos<(⟨l.toArray⟩:ByteArray).size:=by simpa [ByteArray.size] using h
 have e:(⟨l.toArray⟩:ByteArray)[pos]'hs=l[pos]:=by rfl
 have e2:(⟨l.toArray⟩:ByteArray).get! (pos+0)=l[pos]:=by
  show (⟨l.toArray⟩:ByteArray).get! pos=_
  simp [ByteArray.get!,getElem!_pos,h]
 by_cases ha:l[pos].toNat<128
 ·have:=decode_ascii ⟨l.toArray⟩ pos hs (by rw [e];exact ha)
  rw [e] at this
  exact .inl this
 ·refine .inr ⟨z5 _ _ (by rw [e2];omega),oJ (by omega)⟩
def vf (l:List UInt8):AV:=.tup [.d (i64 (if cV l then -(bW l:Int) else 0)),.d (i64 (if cV l then 0 else 5))]
theorem eC {l:List UInt8} (h:cV l=false):vf l=.tup [.d (i64 0),.d (i64 5)]:=by simp [vf,h]
theorem GC {c:UInt8} (h:bH c=true):w64 (IntKind.i32.wrap (((c.toNat:Nat):Int)-48))=((c.toNat-48:Nat):Int):=by
 simp only [bH,Bool.and_eq_true,decide_eq_true_eq] at h
 have e:IntKind.i32.wrap (((c.toNat:Nat):Int)-48)=((c.toNat-48:Nat):Int):=by
  simp only [IntKind.wrap,IntKind.bits,IntKind.signed]
  simp
  split<;>omega
 rw [e,ak ⟨by omega,by omega⟩]
theorem DP {d:Nat} (h:d≤9):w64 ((w64 (-9223372036854775808+((d:Nat):Int))).tdiv 10) = -(((9223372036854775808-d) / 10:Nat):Int):=by
 have h1:w64 (-9223372036854775808+((d:Nat):Int)) = -9223372036854775808+((d:Nat):Int):=ak ⟨by omega,by omega⟩
 rw [h1]
 have h2:=H2 (-9223372036854775808+((d:Nat):Int))
 rw [if_pos (by omega)] at h2
 rw [h2,ak ⟨by omega,by omega⟩]
 omega
theorem wS {G} (l:List UInt8):HP Tryz.prog G 298 [.str l] (fun r=>r=vf l):=by
 refine ao Tryz.func298 rfl (by decide +kernel) (by simp [Tryz.ntmps298]) (veil fun E=>?_)
 simp only [go_sem]
 refine cQ E (fun h0=>?_) (fun h0=>?_)<;>simp only [go_sem]
 ·have:l=[]:=by simpa using h0
  subst this;rfl
 have h0:1≤l.length:=by
  cases l with
  | nil=>simp at h0
  | cons c r=>simp
 refine aO E (fun h1=>?_) (fun h1=>?_)<;>simp only [go_sem]
 ·refine ⟨by omega,?_⟩
  refine ai E (fun h4=>?_) (fun h4=>?_)<;>simp only [go_sem]
  ·have:cV l=false:=vY (by omega) (by rw [lH (by omega)];congr 1;exact (BA (n:=48) (by omega)).1 h4)
   rw [eC this]
  ·refine tv E l (by rw [ti9]) rfl (by simp) (by simp [aa]) ?_
   simp only [go_sem]
   refine cM E (X:={ i:Nat // i≤l.length∧(l.take i).all bH=true∧bW (l.take i)≤9223372036854775808 }) (fun x=>[(0,.d (.str l)),(4,.d (i64 (-(bW (l.take x.1):Nat)))),(21,.it [21])]) (fun x=>[([21],.siter l x.1)]) [21] (fun x=>l.length-x.1) ⟨0,by simp,by simp,by simp [bW]⟩ ?_ ?_
   ·simp only [go_sem]
    simp [bW]
   rintro ⟨i,hi,hall,hvi⟩ E0
   refine bb E0 fun Q' hQ E'=>?_
   simp only at hi hall hvi ⊢
   simp only [go_sem]
   refine xm E' [21] l i rfl rfl (by simp) (fun hi'=>?_) (fun hi'=>?_)<;>simp only [go_sem]
   ·rcases oh hi' with e | ⟨e1,e2⟩
    ·rw [e]
     refine aO E' (fun h7=>?_) (fun h7=>?_)<;>simp only [go_sem]
     ·rw [hQ]
      simp only [go_sem]
      rw [eC (gl hi' (tn h7))]
     refine ai E' (fun h8=>?_) (fun h8=>?_)<;>simp only [go_sem]
     ·rw [hQ]
      simp only [go_sem]
      rw [eC (gl hi' (oJ h8))]
     have hd:=uw h7 h8
     have hdv:l[i].toNat-48≤9:=by
      simp only [bH,Bool.and_eq_true,decide_eq_true_eq] at hd
      omega
     rw [GC hd,DP hdv]
     refine ai E' (fun h9=>?_) (fun h9=>?_)<;>simp only [go_sem]
     ·rw [hQ]
      simp only [go_sem]
      rw [eC (qa (i:=i+1) (by rw [eQ hi'];omega))]
     ·rw [hQ]
      simp only [go_sem]
      have hle:10*bW (l.take i)+(l[i].toNat-48)≤9223372036854775808:=by omega
      refine ⟨⟨i+1,by omega,tw hi' hall hd,by rw [eQ hi'];exact hle⟩,by show l.length-(i+1)<_;omega,?_,rfl⟩
      show AV.d (D.int IntKind.i64 _)=AV.d (i64 (-((bW (l.take (i+1)):Nat):Int)))
      rw [eQ hi']
      congr 2
      simp only [m0]
      repeat' split
      all_goals omega
    ·refine aO E' (fun h7=>?_) (fun h7=>?_)<;>simp only [go_sem]
     ·omega
     refine ai E' (fun h8=>?_) (fun h8=>?_)<;>simp only [go_sem]
     ·rw [hQ]
      simp only [go_sem]
      rw [eC (gl hi' e2)]
     ·omega
   ·rw [hQ]
    simp only [go_sem]
    have hil:i=l.length:=by omega
    subst hil
    rw [List.take_length] at hall hvi ⊢
    have hlead:¬ (1<l.length∧l.head?=some 48):=by
     rintro ⟨g1,g2⟩
     first
      | exact h4 ((BA (n:=48) (by omega)).2 (by rw [lH (by omega)] at g2;exact Option.some.inj g2))
      | omega
    have hok:=qI h0 hlead hall hvi
    simp [vf,hok]
 ·refine tv E l (by rw [ti9]) rfl (by simp) (by simp [aa]) ?_
  simp only [go_sem]
  refine cM E (X:={ i:Nat // i≤l.length∧(l.take i).all bH=true∧bW (l.take i)≤9223372036854775808 }) (fun x=>[(0,.d (.str l)),(4,.d (i64 (-(bW (l.take x.1):Nat)))),(21,.it [21])]) (fun x=>[([21],.siter l x.1)]) [21] (fun x=>l.length-x.1) ⟨0,by simp,by simp,by simp [bW]⟩ ?_ ?_
  ·simp only [go_sem]
   simp [bW]
  rintro ⟨i,hi,hall,hvi⟩ E0
  refine bb E0 fun Q' hQ E'=>?_
  simp only at hi hall hvi ⊢
  simp only [go_sem]
  refine xm E' [21] l i rfl rfl (by simp) (fun hi'=>?_) (fun hi'=>?_)<;>simp only [go_sem]
  ·rcases oh hi' with e | ⟨e1,e2⟩
   ·rw [e]
    refine aO E' (fun h7=>?_) (fun h7=>?_)<;>simp only [go_sem]
    ·rw [hQ]
     simp only [go_sem]
     rw [eC (gl hi' (tn h7))]
    refine ai E' (fun h8=>?_) (fun h8=>?_)<;>simp only [go_sem]
    ·rw [hQ]
     simp only [go_sem]
     rw [eC (gl hi' (oJ h8))]
    have hd:=uw h7 h8
    have hdv:l[i].toNat-48≤9:=by
     simp only [bH,Bool.and_eq_true,decide_eq_true_eq] at hd
     omega
    rw [GC hd,DP hdv]
    refine ai E' (fun h9=>?_) (fun h9=>?_)<;>simp only [go_sem]
    ·rw [hQ]
     simp only [go_sem]
     rw [eC (qa (i:=i+1) (by rw [eQ hi'];omega))]
    ·rw [hQ]
     simp only [go_sem]
     have hle:10*bW (l.take i)+(l[i].toNat-48)≤9223372036854775808:=by omega
     refine ⟨⟨i+1,by omega,tw hi' hall hd,by rw [eQ hi'];exact hle⟩,by show l.length-(i+1)<_;omega,?_,rfl⟩
     show AV.d (D.int IntKind.i64 _)=AV.d (i64 (-((bW (l.take (i+1)):Nat):Int)))
     rw [eQ hi']
     congr 2
     simp only [m0]
     repeat' split
     all_goals omega
   ·refine aO E' (fun h7=>?_) (fun h7=>?_)<;>simp only [go_sem]
    ·omega
    refine ai E' (fun h8=>?_) (fun h8=>?_)<;>simp only [go_sem]
    ·rw [hQ]
     simp only [go_sem]
     rw [eC (gl hi' e2)]
    ·omega
  ·rw [hQ]
   simp only [go_sem]
   have hil:i=l.length:=by omega
   subst hil
   rw [List.take_length] at hall hvi ⊢
   have hlead:¬ (1<l.length∧l.head?=some 48):=by
    rintro ⟨g1,g2⟩
    first
     | exact h4 ((BA (n:=48) (by omega)).2 (by rw [lH (by omega)] at g2;exact Option.some.inj g2))
     | omega
   have hok:=qI h0 hlead hall hvi
   simp [vf,hok]
end Go.Proofs.YtejpnabbmgpmaaaGreat

namespace Go.Proofs.YtejpnabbmgpmaaaGreat
open Go.Ab
theorem tS {l:List UInt8} (h:cV l=true):bW l≤9223372036854775808:=by
 simp only [cV,Bool.and_eq_true,decide_eq_true_eq] at h
 exact h.2
theorem neg_zero {l:List UInt8} (h:bW l=0):cK true l=.tup [.d (i64 0),.d (i64 5)]:=gR (by simp [b8,h])
theorem Dd {l:List UInt8} (hd:cV l=true) (h:bW l≠0):cK true l=.tup [.d (i64 (-(bW l:Int))),.d (i64 0)]:=by
 have:b8 true l=true:=by simp [b8,hd,h]
 simp [cK,this]
theorem HA {G} (s:List UInt8) (hp:bp s [126]=true):HP Tryz.prog G 267 [.str s] (fun r=>r=cK true (s.drop 1)):=by
 refine ao Tryz.func267 rfl (by decide +kernel) (by simp [Tryz.ntmps267]) (veil fun E=>?_)
 simp only [go_sem]
 refine ae E (xc s [126]) rfl rfl (by simp) ?_
 rintro _ rfl
 simp only [hp,List.length_cons,List.length_nil]
 simp only [go_sem]
 refine ae E (wS (s.drop 1)) rfl rfl (by simp) ?_
 rintro _ rfl
 simp only [vf]
 by_cases hd:cV (s.drop 1)=true
 ·have hle:=tS hd
  simp only [hd,if_true]
  simp only [go_sem]
  refine aO E (fun h1=>?_) (fun h1=>?_)<;>simp only [go_sem]
  ·rw [neg_zero (by omega)]
  ·rw [Dd hd (by omega)]
 ·simp only [hd,if_false]
  simp only [go_sem]
  rw [gR (nR (by simpa using hd))]
theorem Hc {G} (s:List UInt8) (hp:bp s [126]=false):HP Tryz.prog G 267 [.str s] (fun r=>r=cK false s):=by
 refine ao Tryz.func267 rfl (by decide +kernel) (by simp [Tryz.ntmps267]) (veil fun E=>?_)
 simp only [go_sem]
 refine ae E (xc s [126]) rfl rfl (by simp) ?_
 rintro _ rfl
 simp only [hp,List.length_cons,List.length_nil]
 simp only [go_sem]
 refine ae E (wS s) rfl rfl (by simp) ?_
 rintro _ rfl
 simp only [vf]
 by_cases hd:cV s=true
 ·have hle:=tS hd
  simp only [hd,if_true]
  simp only [go_sem]
  refine ai E (fun h1=>?_) (fun h1=>?_)<;>simp only [go_sem]
  ·have:b8 false s=false:=by simp [b8];intro _;omega
   rw [gR this]
  ·have:b8 false s=true:=by simp [b8,hd];omega
   simp [cK,this]
   rw [ak ⟨by omega,by omega⟩]
 ·simp only [hd,if_false]
  simp only [go_sem]
  rw [gR (nR (by simpa using hd))]
theorem yw {G} (s:List UInt8):HP Tryz.prog G 267 [.str s] (fun r=>r=q6 s):=by
 unfold q6
 cases hp:bp s [126] with
 | true=>exact HA s hp
 | false=>exact Hc s hp
end Go.Proofs.YtejpnabbmgpmaaaGreat

namespace Go.Proofs.YtejpnabbmgpmaaaGreat
open Go.Ab
theorem Ax {c:UInt8} (h1:65≤((c.toNat:Nat):Int)) (h2:((c.toNat:Nat):Int)≤90):gr c=true:=by
 show (decide (65≤((c.toNat:Nat):Int)) && decide (((c.toNat:Nat):Int)≤90))=true
 simp [h1,h2]
theorem Dl {c:UInt8} (h1:¬ 65≤((c.toNat:Nat):Int)):¬ gr c=true:=by
 show ¬ (decide (65≤((c.toNat:Nat):Int)) && decide (((c.toNat:Nat):Int)≤90))=true
 simp [h1]
theorem Dk {c:UInt8} (h2:¬ ((c.toNat:Nat):Int)≤90):¬ gr c=true:=by
 show ¬ (decide (65≤((c.toNat:Nat):Int)) && decide (((c.toNat:Nat):Int)≤90))=true
 simp [h2]
theorem Gi {G} (s:List UInt8) (n:Nat) (_hl:s.length≤1000000) (h1:1≤n) (hn:n≤s.length):HP Tryz.prog G 216 [.str s,i64 n] (fun r=>r=.d (re (nM s n))):=by
 refine ao Tryz.func216 rfl (by decide +kernel) (by simp [Tryz.ntmps216]) (veil fun E=>?_)
 simp only [go_sem]
 refine ⟨⟨by omega,by omega⟩,?_⟩
 rw [Nat.sub_zero]
 have hw:(s.take n).length=n:=by rw [List.length_take];omega
 obtain ⟨w,hwd⟩:∃ w,w=s.take n:=⟨_,rfl⟩
 rw [← hwd] at hw
 have hdef:nM s n=if 20<n then dU 7 else if FM w then ⟨⟨1,w,0,0⟩,n,0⟩ else if gr (w.getD 0 0) then ⟨⟨3,w,0,0⟩,n,0⟩ else ⟨⟨2,w,0,0⟩,n,0⟩:=by rw [hwd];rfl
 rw [← hwd]
 refine ai E (fun h2=>?_) (fun h2=>?_)<;>simp only [go_sem]
 ·rw [hdef,if_pos (by omega)];rfl
 rw [if_neg (by omega)] at hdef
 refine ae E (xP w) rfl rfl (by simp) ?_
 rintro _ rfl
 simp only [go_sem]
 refine aZ E (fun h3=>?_) (fun h3=>?_)<;>simp only [go_sem]
 ·rw [hdef,if_pos h3];rfl
 rw [if_neg (by rw [h3];simp)] at hdef
 refine ⟨by omega,?_⟩
 refine aO E (fun h4=>?_) (fun h4=>?_)<;>simp only [go_sem]
 ·refine ⟨by omega,?_⟩
  refine ai E (fun h5=>?_) (fun h5=>?_)<;>simp only [go_sem]
  ·rw [hdef,if_pos (Ax h4 h5)];rfl
  ·rw [hdef,if_neg (Dk h5)];rfl
 ·rw [hdef,if_neg (Dl h4)];rfl
theorem yE {G} (c:UInt8):HP Tryz.prog G 218 [u8 c] (fun r=>r=.d (.bool (bH c))):=by
 unfold u8
 refine ao Tryz.func218 rfl (by decide +kernel) (by simp [Tryz.ntmps218]) (veil fun E=>?_)
 simp only [go_sem]
 repeat (first
  | (apply fg E;(· simp only [go_sem]);(· intro h;(try simp only [bq] at h);simp only [↓h,go_sem];rfl);simp only [go_sem])
  | (apply cD E;(· simp only [go_sem]);(· intro h;(try simp only [bq] at h);simp only [↓h,go_sem];rfl);(· intro h;(try simp only [bq] at h);simp only [↓h,go_sem];rfl);simp only [go_sem])
  | (apply cC E;(· simp only [go_sem]);(· rfl);(· intro h h';(try simp only [bq] at h h');simp only [↓h,↓h',go_sem];rfl);simp only [go_sem])
  | (apply bC E;(· simp only [go_sem]);(· rfl);(· intro h h';(try simp only [bq] at h h');simp only [↓h,↓h',go_sem];rfl);(· intro h h';(try simp only [bq] at h h');simp only [↓h,↓h',go_sem];rfl);simp only [go_sem])
  | (apply eI E;(· decide);simp only [go_sem]))
 have hp:(decide (48≤((c.toNat:Nat):Int)) && decide (((c.toNat:Nat):Int)≤57))=bH c:=by
  unfold bH
  rw [Bool.eq_iff_iff];simp;omega
 rw [hp]
theorem FN {G} (s:List UInt8) (hl:s.length≤1000000):HP Tryz.prog G 220 [.str s] (fun r=>r=.d (re (uN s))):=by
 refine ao Tryz.func220 rfl (by decide +kernel) (by simp [Tryz.ntmps220]) (veil fun E=>?_)
 simp only [go_sem]
 refine ae E (F7 s hl) rfl rfl (by simp) ?_
 rintro _ rfl
 simp only [go_sem]
 rfl
theorem wP (s:List UInt8):q6 s=.tup [.d (i64 (Co s).1),.d (i64 (Co s).2)]:=by
 unfold q6 Co
 have key:∀ (b:Bool) (l:List UInt8),cK b l=.tup [.d (i64 (tI b l).1),.d (i64 (tI b l).2)]:=fun b l=>by
  unfold cK tI
  cases b8 b l<;>rfl
 split<;>exact key _ _
theorem zC {s:List UInt8} {n:Nat} (h:n<s.length):kz (s.drop n)=if bH (s.getD n 0) then kz (s.drop (n+1))+1 else 0:=by
 rw [List.drop_eq_getElem_cons h,kz]
 simp [h]
theorem E1 {G} (s:List UInt8) (hl:s.length≤1000000) (h0:1≤s.length):HP Tryz.prog G 219 [.str s] (fun r=>r=.d (re (AA s))):=by
 refine ao Tryz.func219 rfl (by decide +kernel) (by simp [Tryz.ntmps219]) (veil fun E=>?_)
 simp only [go_sem]
 have hle:=rM (s.drop 1)
 rw [List.length_drop] at hle
 refine a9 E (X:={ n:Nat // 1≤n∧n≤s.length∧n+kz (s.drop n)=kz (s.drop 1)+1 }) (fun x=>[(0,.d (.str s)),(2,.at [2] 0),(3,.d (i64 x.1))]) (fun x=>[([2],.box [.d (i64 0),.d (.str []),.d (i64 0),.d (i64 0),.d (i64 0),.d (i64 0)])]) [2] (fun x=>s.length-x.1) ⟨1,by omega,by omega,by omega⟩ id ?_ ?_
 ·simp only [go_sem]
  all_goals rfl
 rintro ⟨n,hn1,hn2,hn3⟩ E0
 refine bb E0 fun Q' hQ E'=>?_
 simp only at hn1 hn2 hn3 ⊢
 simp only [go_sem]
 refine aO E' (fun h1=>?_) (fun h1=>?_)<;>simp only [go_sem]
 ·have h1':n<s.length:=by omega
  refine ⟨⟨by omega,by omega⟩,?_⟩
  refine ae E' (yE (s.getD n 0)) rfl rfl (by simp) ?_
  rintro _ rfl
  simp only [go_sem]
  have hd:=zC h1'
  refine aZ E' (fun h2=>?_) (fun h2=>?_)<;>simp only [go_sem]
  ·rw [ak ⟨by omega,by omega⟩,hQ]
   simp only [go_sem]
   rw [h2,if_pos rfl] at hd
   refine ⟨⟨n+1,by omega,by omega,by omega⟩,by show s.length-(n+1)<_;omega,id,?_⟩
   simp only [go_sem]
   rfl
  ·rw [h2] at hd
   have hn4:n=kz (s.drop 1)+1:=by simp at hd;omega
   rw [hQ]
   simp only [go_sem]
   refine ⟨⟨by omega,by omega⟩,?_⟩
   rw [Nat.sub_zero]
   refine ae E (yw (s.take n)) rfl rfl (by simp) ?_
   rintro _ rfl
   rw [wP]
   simp only [go_sem]
   rw [hn4]
   rfl
 ·have hn4:n=kz (s.drop 1)+1:=by
   have:n=s.length:=by omega
   rw [this,List.drop_length] at hn3
   simp [kz] at hn3
   omega
  rw [hQ]
  simp only [go_sem]
  refine ⟨⟨by omega,by omega⟩,?_⟩
  rw [Nat.sub_zero]
  refine ae E (yw (s.take n)) rfl rfl (by simp) ?_
  rintro _ rfl
  rw [wP]
  simp only [go_sem]
  rw [hn4]
  rfl
theorem DS {G} (s:List UInt8) (hl:s.length≤1000000) (h0:1≤s.length):HP Tryz.prog G 217 [.str s] (fun r=>r=.d (re (ux s))):=by
 have hwl:=kM (s.drop 1)
 rw [List.length_drop] at hwl
 refine ao Tryz.func217 rfl (by decide +kernel) (by simp [Tryz.ntmps217]) (veil fun E=>?_)
 simp only [go_sem]
 refine ⟨⟨by omega,by omega⟩,?_⟩
 rw [List.take_of_length_le (l:=s.drop 1) (by rw [List.length_drop];omega)]
 refine ae E (sf (s.drop 1) (by rw [List.length_drop];omega)) rfl rfl (by simp) ?_
 rintro _ rfl
 simp only [go_sem]
 have hdef:ux s=if cz (s.drop 1)=0∨gr (s.getD 1 0) then dU 5 else if 20<cz (s.drop 1) then dU 7 else ⟨⟨6,(s.drop 1).take (cz (s.drop 1)),0,0⟩,cz (s.drop 1)+1,0⟩:=rfl
 generalize cz (s.drop 1)=n at hdef hwl
 refine aO E (fun h1=>?_) (fun h1=>?_)<;>simp only [go_sem]
 ·rw [hdef,if_pos (.inl (by omega))];rfl
 refine ⟨by omega,?_⟩
 have more:∀ h:¬ gr (s.getD 1 0)=true,ux s=if 20<n then dU 7 else ⟨⟨6,(s.drop 1).take n,0,0⟩,n+1,0⟩:=fun h=>by rw [hdef,if_neg (fun e=>e.elim (by omega) h)]
 refine aO E (fun h2=>?_) (fun h2=>?_)<;>simp only [go_sem]
 ·refine ⟨by omega,?_⟩
  refine ai E (fun h3=>?_) (fun h3=>?_)<;>simp only [go_sem]
  ·rw [hdef,if_pos (.inr (Ax h2 h3))];rfl
  have hm:=more (Dk h3)
  refine ai E (fun h4=>?_) (fun h4=>?_)<;>simp only [go_sem]
  ·rw [hm,if_pos (by omega)];rfl
  rw [ak ⟨by omega,by omega⟩]
  refine ⟨⟨by omega,by omega⟩,?_⟩
  rw [hm,if_neg (by omega),show ((n:Int)+1).toNat-1=n by omega]
  rfl
 ·have hm:=more (Dl h2)
  refine ai E (fun h4=>?_) (fun h4=>?_)<;>simp only [go_sem]
  ·rw [hm,if_pos (by omega)];rfl
  rw [ak ⟨by omega,by omega⟩]
  refine ⟨⟨by omega,by omega⟩,?_⟩
  rw [hm,if_neg (by omega),show ((n:Int)+1).toNat-1=n by omega]
  rfl
theorem Gl {G} (s:List UInt8) (hl:s.length≤1000000) (h0:1≤s.length):HP Tryz.prog G 221 [.str s] (fun r=>r=.d (re (m6 s))):=by
 refine ao Tryz.func221 rfl (by decide +kernel) (by simp [Tryz.ntmps221]) (veil fun E=>?_)
 simp only [go_sem]
 refine ae E (xL s [45,62]) rfl rfl (by simp) ?_
 rintro _ rfl
 simp only [go_sem]
 have hdef:m6 s=if bp s [45,62] || bp s [61,61] then ⟨⟨7,s.take 2,0,0⟩,2,0⟩ else if Lib.indexByte Al (s.getD 0 0)<0 then dU 5 else ⟨⟨7,s.take 1,0,0⟩,1,0⟩:=rfl
 refine cQ E (fun h1=>?_) (fun h1=>?_)<;>simp only [go_sem]
 ·have:=gx h1
  simp only [List.length_cons,List.length_nil] at this
  refine ⟨by omega,?_⟩
  rw [hdef,h1];rfl
 refine ae E (xL s [61,61]) rfl rfl (by simp) ?_
 rintro _ rfl
 simp only [go_sem]
 refine aZ E (fun h2=>?_) (fun h2=>?_)<;>simp only [go_sem]
 ·have:=gx h2
  simp only [List.length_cons,List.length_nil] at this
  refine ⟨by omega,?_⟩
  rw [hdef,h2,Bool.or_true];rfl
 rw [h1,h2,Bool.or_false,if_neg (by simp)] at hdef
 refine ⟨by omega,?_⟩
 refine ae E (kP Al (s.getD 0 0)) rfl rfl (by simp) ?_
 rintro _ rfl
 simp only [go_sem]
 refine ai E (fun h3=>?_) (fun h3=>?_)<;>simp only [go_sem]
 ·rw [hdef,if_pos h3];rfl
 refine ⟨by omega,?_⟩
 rw [hdef,if_neg h3];rfl
end Go.Proofs.YtejpnabbmgpmaaaGreat

namespace Go.Proofs.YtejpnabbmgpmaaaGreat
open Go.Ab
theorem iD (f:Fnd):re f=.agg [i64 f.t.k,.str f.t.s,i64 f.t.n,i64 f.t.pos,i64 f.n,i64 f.e]:=rfl
theorem F6 {G} (s:List UInt8) (hl:s.length≤1000000) (h0:1≤s.length):HP Tryz.prog G 146 [.str s] (fun r=>r=.d (re (dG s))):=by
 have hwl:=kM s
 refine ao Tryz.func146 rfl (by decide +kernel) (by simp [Tryz.ntmps146]) (veil fun E=>?_)
 simp only [go_sem]
 refine ae E (sf s (by omega)) rfl rfl (by simp) ?_
 rintro _ rfl
 simp only [go_sem]
 have hdef:dG s=if 0<cz s then nM s (cz s) else if s.getD 0 0=39 then ux s else if bH (s.getD 0 0) || decide (s.getD 0 0=126) then AA s else if s.getD 0 0=34 then uN s else m6 s:=rfl
 generalize cz s=n at hdef hwl
 generalize hc:s.getD 0 0=c at hdef
 refine ai E (fun h1=>?_) (fun h1=>?_)<;>simp only [go_sem]
 ·refine ae E (Gi s n hl (by omega) hwl) rfl rfl (by simp) ?_
  rintro _ rfl
  rw [iD (nM s n)]
  simp only [go_sem]
  rw [hdef,if_pos (by omega)];rfl
 rw [if_neg (by omega)] at hdef
 refine ⟨by omega,?_⟩
 rw [hc]
 refine ai E (fun h2=>?_) (fun h2=>?_)<;>simp only [go_sem]
 ·refine ae E (DS s hl h0) rfl rfl (by simp) ?_
  rintro _ rfl
  rw [iD (ux s)]
  simp only [go_sem]
  rw [hdef,if_pos (fw 39 h2)];rfl
 rw [if_neg (bI 39 h2)] at hdef
 refine ae E (yE c) rfl rfl (by simp) ?_
 rintro _ rfl
 simp only [go_sem]
 repeat (first
  | (apply fg E;(· simp only [go_sem]);(· intro h;(try simp only [bq] at h);simp only [↓h,go_sem];rfl);simp only [go_sem])
  | (apply cD E;(· simp only [go_sem]);(· intro h;(try simp only [bq] at h);simp only [↓h,go_sem];rfl);(· intro h;(try simp only [bq] at h);simp only [↓h,go_sem];rfl);simp only [go_sem])
  | (apply cC E;(· simp only [go_sem]);(· rfl);(· intro h h';(try simp only [bq] at h h');simp only [↓h,↓h',go_sem];rfl);simp only [go_sem])
  | (apply bC E;(· simp only [go_sem]);(· rfl);(· intro h h';(try simp only [bq] at h h');simp only [↓h,↓h',go_sem];rfl);(· intro h h';(try simp only [bq] at h h');simp only [↓h,↓h',go_sem];rfl);simp only [go_sem])
  | (apply eI E;(· decide);simp only [go_sem]))
 refine aZ E (fun h3=>?_) (fun h3=>?_)<;>simp only [go_sem]
 ·refine ae E (E1 s hl h0) rfl rfl (by simp) ?_
  rintro _ rfl
  rw [iD (AA s)]
  simp only [go_sem]
  have h4:(bH c || decide (c=126))=true:=by
   simp only [Bool.or_eq_true,decide_eq_true_eq] at h3 ⊢
   rcases h3 with h3 | h3
   ·exact .inl h3
   ·exact .inr (fw 126 h3)
  rw [hdef,if_pos h4];rfl
 have h4:¬ (bH c || decide (c=126))=true:=by
  simp only [Bool.or_eq_false_iff,decide_eq_false_iff_not] at h3
  simp only [Bool.or_eq_true,decide_eq_true_eq,not_or]
  exact ⟨by rw [h3.1];simp,bI 126 h3.2⟩
 rw [if_neg h4] at hdef
 refine ai E (fun h5=>?_) (fun h5=>?_)<;>simp only [go_sem]
 ·refine ae E (FN s hl) rfl rfl (by simp) ?_
  rintro _ rfl
  rw [iD (uN s)]
  simp only [go_sem]
  rw [hdef,if_pos (fw 34 h5)];rfl
 rw [if_neg (bI 34 h5)] at hdef
 refine ae E (Gl s hl h0) rfl rfl (by simp) ?_
 rintro _ rfl
 rw [iD (m6 s)]
 simp only [go_sem]
 rw [hdef];rfl
theorem wM:∀ l:List UInt8,Lib.indexByte l 10=match ij l with
  | none=>-1
  | some k=>(k:Int)
 | []=>rfl
 | c::r=>by
   unfold Lib.indexByte ij
   by_cases h:c=10
   ·simp [h]
   ·rw [if_neg (by simpa using h),if_neg h,wM r]
    cases ij r with
    | none=>rfl
    | some k =>
      simp only [Option.map_some]
      rw [if_neg (by simp)]
      show (k:Int)+1=((k+1:Nat):Int)
      omega
theorem sj:∀ {l:List UInt8} {k:Nat},ij l=some k→k<l.length
 | [],_,h=>by cases h
 | c::r,k,h=>by
   unfold ij at h
   split at h
   ·cases h;simp
   ·obtain ⟨j,hj,rfl⟩:=Option.map_eq_some_iff.1 h
    have:=sj hj
    simp only [List.length_cons];omega
theorem CA {c:UInt8} {r:List UInt8} {k:Nat} (hc:¬ c=10) (h:ij (c::r)=some k):1≤k:=by
 unfold ij at h
 rw [if_neg hc] at h
 obtain ⟨j,_,rfl⟩:=Option.map_eq_some_iff.1 h
 omega
theorem tq (c:UInt8):0≤Lib.indexByte wq c↔c=32∨c=9∨c=10:=by
 unfold wq
 by_cases h1:c=32
 ·subst h1;decide
 by_cases h2:c=9
 ·subst h2;decide
 by_cases h3:c=10
 ·subst h3;decide
 simp [Lib.indexByte,Ne.symm h1,Ne.symm h2,Ne.symm h3,h1,h2,h3]
structure PaI (s:List UInt8) (n m:Nat):Prop where
 hn:n≤s.length
 hm:(s.drop n).length<m
 he:n+jG m (s.drop n)=bx s
theorem PaI.init (s:List UInt8):PaI s 0 s.length.succ:=⟨Nat.zero_le _,by simp,by simp [bx]⟩
theorem PaI.fin {s:List UInt8} {n m:Nat} (h:PaI s n m) (hn:s.length≤n):bx s=n:=by
 rw [← h.he,List.drop_eq_nil_of_le hn]
 cases m<;>rfl
theorem PaI.cases {s:List UInt8} {n m:Nat} (h:PaI s n m) (hi:n<s.length):∃ m',m=m'+1∧s.drop n=s.getD n 0::s.drop (n+1):=by
 obtain ⟨m',rfl⟩:∃ m',m=m'+1:=⟨m-1,by have:=h.hm;omega⟩
 exact ⟨m',rfl,by rw [List.drop_eq_getElem_cons hi];simp [hi]⟩
theorem PaI.blank {s:List UInt8} {n m:Nat} (h:PaI s n m) (hi:n<s.length) (hb:s.getD n 0=32∨s.getD n 0=9∨s.getD n 0=10):PaI s (n+1) (m-1):=by
 obtain ⟨m',rfl,hd⟩:=h.cases hi
 have hm:=h.hm
 rw [List.length_drop] at hm
 refine ⟨by omega,by rw [List.length_drop];omega,?_⟩
 rw [← h.he,hd,jG,if_pos hb,Nat.add_sub_cancel]
 omega
theorem PaI.stop {s:List UInt8} {n m:Nat} (h:PaI s n m) (hi:n<s.length) (hb:¬ (s.getD n 0=32∨s.getD n 0=9∨s.getD n 0=10)) (hr:¬ s.getD n 0=35):bx s=n:=by
 obtain ⟨m',rfl,hd⟩:=h.cases hi
 rw [← h.he,hd,jG,if_neg hb,if_neg hr]
 omega
theorem PaI.none {s:List UInt8} {n m:Nat} (h:PaI s n m) (hi:n<s.length) (hb:¬ (s.getD n 0=32∨s.getD n 0=9∨s.getD n 0=10)) (hr:s.getD n 0=35) (hf:ij (s.drop n)=none):bx s=s.length:=by
 obtain ⟨m',rfl,hd⟩:=h.cases hi
 rw [hd] at hf
 rw [← h.he,hd,jG,if_neg hb,if_pos hr,hf,← hd]
 simp only [List.length_drop]
 omega
theorem PaI.some {s:List UInt8} {n m k:Nat} (h:PaI s n m) (hi:n<s.length) (hb:¬ (s.getD n 0=32∨s.getD n 0=9∨s.getD n 0=10)) (hr:s.getD n 0=35) (hf:ij (s.drop n)=some k):PaI s (n+k) (m-1)∧1≤k:=by
 obtain ⟨m',rfl,hd⟩:=h.cases hi
 have hk:=sj hf
 have h1:1≤k:=by
  rw [hd] at hf
  exact CA (by rw [hr];decide) hf
 have hm:=h.hm
 rw [List.length_drop] at hm hk
 refine ⟨⟨by omega,by rw [List.length_drop];omega,?_⟩,h1⟩
 rw [hd] at hf
 rw [← h.he,hd,jG,if_neg hb,if_pos hr,hf,← hd]
 simp only [List.drop_drop,Nat.add_sub_cancel]
 omega
theorem yx {G} (s:List UInt8) (hl:s.length≤1000000):HP Tryz.prog G 145 [.str s] (fun r=>r=.d (i64 (bx s))):=by
 refine ao Tryz.func145 rfl (by decide +kernel) (by simp [Tryz.ntmps145]) (veil fun E=>?_)
 simp only [go_sem]
 refine a9 E (X:={ x:Nat × Nat // PaI s x.1 x.2 }) (fun x=>[(0,.d (.str s)),(3,.d (i64 x.1.1))]) (fun _=>[]) [] (fun x=>s.length-x.1.1) ⟨(0,_),PaI.init s⟩ id ?_ ?_
 ·simp only [go_sem]
  all_goals rfl
 rintro ⟨⟨n,m⟩,hI⟩ E0
 refine bb E0 fun Q' hQ E'=>?_
 simp only at hI ⊢
 have hn:=hI.hn
 simp only [go_sem]
 refine ai E' (fun h1=>?_) (fun h1=>?_)<;>simp only [go_sem]
 rotate_left
 ·rw [hQ]
  simp only [go_sem]
  rw [hI.fin (by omega)]
 have h1':n<s.length:=by omega
 refine ⟨⟨by omega,by omega⟩,?_⟩
 refine ae E' (kP wq (s.getD n 0)) rfl rfl (by simp) ?_
 rintro _ rfl
 simp only [go_sem]
 refine ai E' (fun h2=>?_) (fun h2=>?_)<;>simp only [go_sem]
 ·have hI2:=hI.blank h1' ((tq _).1 h2)
  rw [ak ⟨by omega,by omega⟩,hQ]
  simp only [go_sem]
  refine ⟨⟨(n+1,m-1),hI2⟩,by show s.length-(n+1)<_;omega,id,?_⟩
  simp only [go_sem]
  rfl
 have h2n:¬ (s.getD n 0=32∨s.getD n 0=9∨s.getD n 0=10):=fun h=>h2 ((tq _).2 h)
 refine ⟨⟨by omega,by omega⟩,?_⟩
 refine ai E' (fun h3=>?_) (fun h3=>?_)<;>simp only [go_sem]
 rotate_left
 ·rw [hQ]
  simp only [go_sem]
  rw [hI.stop h1' h2n (bI 35 h3)]
 have h3y:=fw 35 h3
 refine ⟨⟨by omega,by omega⟩,?_⟩
 rw [List.take_of_length_le (l:=s.drop n) (by rw [List.length_drop];omega)]
 refine ae E' (kP (s.drop n) 10) rfl rfl (by simp) ?_
 rintro _ rfl
 rw [wM]
 cases hf:ij (s.drop n) with
 | none =>
   simp only [go_sem]
   rw [hQ]
   simp only [go_sem]
   rw [hI.none h1' h2n h3y hf]
 | some k =>
   have ⟨hI2,hk⟩:=hI.some h1' h2n h3y hf
   have hn2:=hI2.hn
   simp only [go_sem]
   refine ai E' (fun h4=>?_) (fun h4=>?_)<;>simp only [go_sem]
   ·omega
   rw [ak ⟨by omega,by omega⟩,hQ]
   simp only [go_sem]
   refine ⟨⟨(n+k,m-1),hI2⟩,by show s.length-(n+k)<_;omega,id,?_⟩
   simp only [go_sem]
   rfl
end Go.Proofs.YtejpnabbmgpmaaaGreat

namespace Go.Proofs.YtejpnabbmgpmaaaGreat
open Go.Ab
theorem CG {G} (s:List UInt8):HP Tryz.prog G 89 [.str s] (fun r=>r=.d (.clo 144 [.ptr (.str s)])):=by
 have h:HCall Tryz.prog G 89 [.d (.str s)] [] [] (fun r hp'=>r=.clo 144 [.at [1] 0]∧hp'=[([1],.box [.d (.str s)])]):=by
  refine aq Tryz.func89 rfl (by decide +kernel) (by simp [Tryz.ntmps89]) (veil fun E=>?_)
  simp only [go_sem]
  refine ⟨_,_,[1],id,⟨rfl,rfl⟩,?_⟩
  simp only [go_sem]
 have h2:=HCall.fB (Q':=fun r hp'=>r=.d (.clo 144 [.ptr (.str s)])∧hp'=[]) h [1] (.str s) (by
  rintro r hp' ⟨rfl,rfl⟩
  refine ⟨rfl,rfl,?_,?_⟩
  ·simp only [go_sem]
  ·simp only [go_sem])
 exact h2.mono fun r hp' ⟨h1,h3⟩=>⟨h1,by rw [h1];rfl,h3⟩
theorem nL:∀ (m:Nat) (s:List UInt8),jG m s≤s.length
 | 0,_=>Nat.zero_le _
 | _+1,[]=>Nat.le_refl _
 | m+1,c::r=>by
   unfold jG
   split
   ·have:=nL m r
    simp only [List.length_cons];omega
   split
   ·split
    ·exact Nat.le_refl _
    ·rename_i k hk
     have:=sj hk
     have h2:=nL m ((c::r).drop k)
     rw [List.length_drop] at h2
     omega
   ·exact Nat.zero_le _
theorem yf (s:List UInt8):bx s≤s.length:=nL _ _
structure TI (s:List UInt8) (j p:Nat):Prop where
 hj:j≤(aQ s).length
 hp:p≤s.length
 he:∃ m q,q≤s.length∧(s.drop q).length<m∧p=q+bx (s.drop q)∧(aQ s).drop j=ec m (s.drop q) q
theorem TI.init (s:List UInt8):TI s 0 (bx s):=⟨Nat.zero_le _,yf s,s.length.succ,0,Nat.zero_le _,by simp,by simp,by simp [aQ]⟩
theorem TI.next {s:List UInt8} {j p:Nat} (h:TI s j p):(s.length≤p∧(aQ s).drop j=[]) ∨
  (p<s.length∧(aQ s)[j]?=some (p,dG (s.drop p))∧(((dG (s.drop p)).e≠0∧(aQ s).length=j+1) ∨
   ((dG (s.drop p)).e=0∧p+(dG (s.drop p)).n≤s.length∧1≤(dG (s.drop p)).n∧TI s (j+1) (p+(dG (s.drop p)).n+bx (s.drop (p+(dG (s.drop p)).n)))))):=by
 obtain ⟨m,q,hq,hm,rfl,he⟩:=h.he
 have hpl:=h.hp
 cases m with
 | zero=>omega
 | succ m =>
   have hdd:(s.drop q).drop (bx (s.drop q))=s.drop (q+bx (s.drop q)):=by rw [List.drop_drop]
   unfold ec at he
   rw [hdd] at he
   obtain ⟨p,hp⟩:∃ p,p=q+bx (s.drop q):=⟨_,rfl⟩
   rw [← hp] at he hpl ⊢
   by_cases h0:s.drop p=[]
   ·rw [if_pos h0] at he
    refine .inl ⟨?_,he⟩
    exact List.drop_eq_nil_iff.1 h0
   rw [if_neg h0] at he
   have hlt:p<s.length:=by
    rcases Nat.lt_or_ge p s.length with h1 | h1
    ·exact h1
    ·exact absurd (List.drop_eq_nil_of_le h1) h0
   refine .inr ⟨hlt,?_⟩
   have hget:∀ x r,(aQ s).drop j=x::r→(aQ s)[j]?=some x:=fun x r h=>by
    have:((aQ s).drop j)[0]?=some x:=by rw [h];rfl
    simpa using this
   by_cases h1:(dG (s.drop p)).e=0
   ·rw [if_neg (by simpa using h1)] at he
    have hn:=C3 h0 h1
    rw [List.length_drop] at hn hm
    refine ⟨hget _ _ he,.inr ⟨h1,by omega,hn.1,?_⟩⟩
    have hpq:=yf (s.drop (p+(dG (s.drop p)).n))
    rw [List.length_drop] at hpq
    have hj1:=(List.getElem?_eq_some_iff.1 (hget _ _ he)).1
    refine ⟨by omega,by omega,m,p+(dG (s.drop p)).n,by omega,by rw [List.length_drop];omega,rfl,?_⟩
    have h2:(aQ s).drop (j+1)=((aQ s).drop j).drop 1:=by rw [List.drop_drop]
    rw [h2,he,List.drop_succ_cons,List.drop_zero,List.drop_drop]
   ·rw [if_pos h1] at he
    refine ⟨hget _ _ he,.inl ⟨h1,?_⟩⟩
    have h2:=congrArg List.length he
    rw [List.length_drop] at h2
    simp at h2
    omega
def BB (s:List UInt8) (n:Nat):List D:=[i64 ((aQ s).getD n (0,dU 0)).1,re ((aQ s).getD n (0,dU 0)).2]
set_option maxHeartbeats 1000000 in
theorem wR {G} (s:List UInt8) (hl:s.length≤1000000):ItC Tryz.prog G 144 [.ptr (.str s)] (aQ s).length (BB s):=by
 refine rm Tryz.func144 rfl (by decide +kernel) (by simp [Tryz.ntmps144]) rfl fun z hz=>?_
 refine aB (al fun E=>?_)
 simp only [go_sem]
 refine ae E (yx s hl) rfl rfl (by simp) ?_
 rintro _ rfl
 simp only [go_sem]
 refine dI (vh (X:={ x:Nat × Nat // TI s x.1 x.2 }) (fun x=>mk [(0,.d (.yl z.l)),(1,.d (.ptr (.str s))),(3,.d (i64 x.1.2))] [] []) (fun x=>II z x.1.1) (fun x=>s.length-x.1.2) ⟨(0,bx s),.init s⟩ ⟨id,LeL.le ?_⟩ (fun _ _ h=>h) ?_)
 ·simp only [go_sem]
  all_goals rfl
 rintro ⟨⟨j,p⟩,hT⟩
 have hpl:=hT.hp
 simp only at hT hpl ⊢
 generalize hΦ:lpY _ _ _ _ _ _ _ _=Φ'
 refine aB (al fun E=>?_)
 simp only [go_sem]
 refine ai E (fun h1=>?_) (fun h1=>?_)<;>simp only [go_sem]
 ·obtain ⟨hlt,hget,hcase⟩:=hT.next.resolve_left (fun h=>by omega)
  have hj:j<(aQ s).length:=(List.getElem?_eq_some_iff.1 hget).1
  have hgd:(aQ s).getD j (0,dU 0)=(p,dG (s.drop p)):=by rw [List.getD_eq_getElem?_getD,hget];rfl
  generalize hF:dG (s.drop p)=F at hget hcase hgd
  refine aB (dI (aB (al fun E=>?_)))
  simp only [go_sem]
  refine ⟨⟨by omega,by omega⟩,?_⟩
  rw [List.take_of_length_le (l:=s.drop p) (by rw [List.length_drop];omega)]
  refine ae E (F6 (s.drop p) (by rw [List.length_drop];omega) (by rw [List.length_drop];omega)) rfl rfl (by simp) ?_
  rintro _ rfl
  rw [hF,iD F]
  simp only [go_sem]
  refine aB (aB (fM (kR rfl ?_)))
  simp only [go_sem]
  refine kR rfl ?_
  simp only [go_sem]
  refine kR rfl ?_
  simp only [go_sem]
  refine Fv hz hj (by simp) rfl (by simp only [go_sem];rw [show BB s j=[i64 p,re F] by unfold BB;rw [hgd]];rfl) ?_ ?_
  ·refine jb fun E=>?_
   simp only [go_sem]
   refine al fun E=>?_
   simp only [go_sem]
   refine ai E (fun h2=>?_) (fun h2=>?_)<;>simp only [go_sem]
   ·rcases hcase with ⟨_,h3⟩ | ⟨h3,_⟩
    ·rw [← h3]
     subst hΦ
     exact gM (rS hz (.inr rfl))
    ·exact absurd h3 h2
   ·rcases hcase with ⟨h3,_⟩ | ⟨h3,h4,h5,h6⟩
    ·exact absurd h3 h2
    refine al fun E=>?_
    simp only [go_sem]
    rw [ak ⟨by omega,by omega⟩]
    refine mm (al fun E=>?_)
    simp only [go_sem]
    have hpo:=h6.hp
    refine ⟨⟨by omega,by omega⟩,?_⟩
    rw [show ((p:Int)+(F.n:Nat)).toNat=p+F.n by omega,List.take_of_length_le (l:=s.drop (p+F.n)) (by rw [List.length_drop];omega)]
    refine ae E (yx (s.drop (p+F.n)) (by rw [List.length_drop];omega)) rfl rfl (by simp) ?_
    rintro _ rfl
    simp only [go_sem]
    rw [ak ⟨by omega,by omega⟩]
    subst hΦ
    refine dW (show { x:Nat × Nat // TI s x.1 x.2 } from ⟨(j+1,p+F.n+bx (s.drop (p+F.n))),h6⟩) ?_ id (LeL.le ?_) (fun _ _ h=>h)
    ·show s.length-(p+F.n+bx (s.drop (p+F.n)))<s.length-p
     omega
    ·simp only [go_sem]
     rfl
  ·refine jb fun E=>?_
   simp only [go_sem]
   refine al fun E=>?_
   simp only [go_sem]
   subst hΦ
   exact gM (wo hz (.inr rfl))
 ·subst hΦ
  refine iO ?_
  simp only [go_sem]
  refine xS ?_
  have hj:=hT.hj
  rcases hT.next with ⟨_,h2⟩ | ⟨h2,_⟩
  ·have h3:=List.drop_eq_nil_iff.1 h2
   have:j=(aQ s).length:=by omega
   subst this
   exact rS hz (.inl rfl)
  ·omega
end Go.Proofs.YtejpnabbmgpmaaaGreat

namespace Go.Proofs.YtejpnabbmgpmaaaGreat
open Go.Ab
theorem qR:∀ (m:Nat) (s:List UInt8) (at' i:Nat),i+1<(ec m s at').length→((ec m s at').getD i (0,dU 0)).2.e=0
 | 0,_,_,_,h=>by simp [ec] at h
 | m+1,s,at',i,h=>by
   unfold ec at h ⊢
   split at h
   ·simp at h
   rename_i h0
   rw [if_neg h0]
   split at h
   ·simp at h
   rename_i h1
   rw [if_neg h1]
   cases i with
   | zero=>simpa using h1
   | succ i =>
     simp only [List.length_cons] at h
     rw [List.getD_cons_succ]
     exact qR m _ _ i (by omega)
theorem p4:∀ {l:List (Nat × Fnd)},kI l=none→∀ q∈l,q.2.e=0
 | [],_,q,h=>by cases h
 | a::r,hb,q,h=>by
   unfold kI at hb
   split at hb
   ·cases hb
   rename_i h1
   rcases List.mem_cons.1 h with rfl | h
   ·simpa using h1
   ·exact p4 hb q h
theorem qB:∀ {l:List (Nat × Fnd)} {i:Nat} {e:Int},(∀ k,k+1<l.length→(l.getD k (0,dU 0)).2.e=0)→kI l=some (i,e)→0<l.length∧(l.getD (l.length-1) (0,dU 0)).1=i∧(l.getD (l.length-1) (0,dU 0)).2.e=e∧e≠0
 | [],_,_,_,h=>by cases h
 | [a],i,e,_,h=>by
   unfold kI at h
   split at h
   ·rename_i h1;cases h;exact ⟨by simp,rfl,rfl,h1⟩
   ·cases h
 | a::b::r,i,e,hk,h=>by
   have ha:a.2.e=0:=hk 0 (by simp)
   unfold kI at h
   rw [if_neg (by simpa using ha)] at h
   obtain ⟨_,h2,h3,h4⟩:=qB (l:=b::r) (fun k hk'=>by
    have:=hk (k+1) (by simp only [List.length_cons] at hk' ⊢;omega)
    simpa using this) h
   refine ⟨by simp,?_,?_,h4⟩
   ·simpa using h2
   ·simpa using h3
def E9:St:=mk [] [([0],.map [])] []
theorem x9 {P:Program} {cf:Cf} {Φ:Exit→Act→World→Prop} {I:Base→List Deferred→Prop} {k:List It}:ARY P cf Φ I k E9:=by
 intro B hB ds β a w hds hI hs
 obtain ⟨⟨_,_,_,h⟩,_⟩:=hs.objs [0] _ rfl
 cases h
def uq (s:List UInt8) (n:Nat):St:=mk [(0,.d (.str s)),(2,.at [2] 0),(3,.at [3] 0),(4,.at [4] 0),(5,.at [5] 0)] [([2],.box [.d .nils]),([3],.box [.d (i64 0)]),([4],.box [.d (i64 0)]),([5],.box [.vw [99] 0 n]),([99],.arr (some 4) (((aQ s).take n).map fun q=>gp (pS q)))] [2,3,4,5,99]
theorem sS (s:List UInt8) {n:Nat} (hn:n<(aQ s).length) {q:Nat × Fnd} (hq:q=(aQ s).getD n (0,dU 0)) :
  List.take n (List.map (fun q=>gp (pS q)) (List.take n (aQ s)))++[.agg [i64 q.2.t.k,.str q.2.t.s,i64 q.2.t.n,.int .i64 (q.1:Nat)]]=List.map (fun q=>gp (pS q)) (List.take (n+1) (aQ s)):=by
 have hq2:q=(aQ s)[n]:=by rw [hq];simp [hn]
 rw [List.take_of_length_le (by simp;omega),List.take_succ_eq_append_getElem hn,List.map_append,← hq2]
 rfl
set_option maxHeartbeats 1000000 in
theorem G5 {G} (s:List UInt8) (hl:s.length≤1000000) (hb:kI (aQ s)=none):HP Tryz.prog G 51 [.str s] (fun r=>r=.tup [.d (.sl (some 4) ((da s).1.map gp)),.d (i64 (da s).2.1),.d (i64 (da s).2.2)]):=by
 have hok:=p4 hb
 have hfew:(aQ s).length≤s.length:=kC s.length.succ s 0
 have hlex:da s=((aQ s).map pS,s.length,0):=by unfold da;rw [hb]
 refine gB Tryz.func51 rfl (by decide +kernel) (by simp [Tryz.ntmps51]) fun B0 hB0=>?_
 refine aB (al fun E=>?_)
 simp only [go_sem]
 refine aB (al fun E=>?_)
 simp only [go_sem]
 refine aB (aB (al fun E=>?_))
 simp only [go_sem]
 refine ae E (CG s) rfl rfl (by simp) ?_
 rintro _ rfl
 simp only [go_sem]
 refine rB [5] 0 99 (some 4) [.d .nils] rfl rfl (by rw [aa];decide) ?_
 simp only [go_sem]
 refine dI (mS rfl (wR s hl) rfl (X:=Unit) (fun n _=>uq s n) (by simp) (fun n hn=>rfl) ⟨(),id,LeL.le ?_⟩ ?_ ?_)
 ·simp only [go_sem]
  all_goals rfl
 ·rintro n ⟨⟩ hn lb
  unfold uq BB
  obtain ⟨q,hq⟩:∃ q,q=(aQ s).getD n (0,dU 0):=⟨_,rfl⟩
  have hqm:q∈aQ s:=by rw [hq];simp [hn]
  have hqe:=hok q hqm
  rw [← hq,iD]
  refine veil fun E=>?_
  simp only [go_sem]
  refine CF fun E=>?_
  simp only [go_sem]
  refine ai E (fun h1=>absurd hqe h1) (fun h1=>?_)<;>simp only [go_sem]
  rw [sS s hn hq]
  refine ⟨by omega,?_⟩
  refine BS ?_ () (tau [([99],[25])]) rfl ?_
  ·simp only [go_sem]
  ·simp only [go_sem]
 ·rintro ⟨⟩
  refine mm ?_
  unfold uq
  rw [List.take_length]
  refine al fun E=>?_
  simp only [go_sem]
  refine lA (.inl rfl) hB0 ?_
  simp only [go_sem]
  refine ⟨[([99],some 4,(aQ s).map fun q=>gp (pS q))],?_⟩
  simp only [go_sem]
  rw [hlex,List.map_map]
  rfl
set_option maxHeartbeats 1000000 in
theorem F4 {G} (s:List UInt8) (hl:s.length≤1000000) {i:Nat} {e:Int} (hb:kI (aQ s)=some (i,e)):HP Tryz.prog G 51 [.str s] (fun r=>r=.tup [.d .nils,.d (i64 i),.d (i64 e)]):=by
 obtain ⟨h0,hi,he,hne⟩:=qB (qR _ _ _) hb
 have hok:∀ n,n+1<(aQ s).length→((aQ s).getD n (0,dU 0)).2.e=0:=qR _ _ _
 have hfew:(aQ s).length≤s.length:=kC s.length.succ s 0
 change 0<(aQ s).length at h0
 change ((aQ s).getD ((aQ s).length-1) (0,dU 0)).1=i at hi
 change ((aQ s).getD ((aQ s).length-1) (0,dU 0)).2.e=e at he
 refine gB Tryz.func51 rfl (by decide +kernel) (by simp [Tryz.ntmps51]) fun B0 hB0=>?_
 refine aB (al fun E=>?_)
 simp only [go_sem]
 refine aB (al fun E=>?_)
 simp only [go_sem]
 refine aB (aB (al fun E=>?_))
 simp only [go_sem]
 refine ae E (CG s) rfl rfl (by simp) ?_
 rintro _ rfl
 simp only [go_sem]
 refine rB [5] 0 99 (some 4) [.d .nils] rfl rfl (by rw [aa];decide) ?_
 simp only [go_sem]
 refine dI (mS rfl (wR s hl) rfl (X:=Unit) (fun n _=>if n<(aQ s).length then uq s n else E9) (by simp) (fun n hn=>rfl) ⟨(),id,?_⟩ ?_ ?_)
 ·rw [if_pos h0]
  refine LeL.le ?_
  simp only [go_sem]
  all_goals rfl
 ·rintro n ⟨⟩ hn lb
  simp only [if_pos hn]
  have hlast:n+1<(aQ s).length∨n=(aQ s).length-1:=by omega
  obtain ⟨q,hq⟩:∃ q,q=(aQ s).getD n (0,dU 0):=⟨_,rfl⟩
  have hcase:(q.2.e=0∧n+1<(aQ s).length)∨(q.1=i∧q.2.e=e):=by
   rcases hlast with h | h
   ·exact .inl ⟨by rw [hq];exact hok n h,h⟩
   ·refine .inr ⟨?_,?_⟩
    ·rw [hq,h];exact hi
    ·rw [hq,h];exact he
  unfold BB
  rw [← hq,iD]
  unfold uq
  refine veil fun E=>?_
  simp only [go_sem]
  refine CF fun E=>?_
  simp only [go_sem]
  refine ai E (fun h1=>?_) (fun h1=>?_)<;>simp only [go_sem]
  ·obtain ⟨hq1,hq2⟩:=hcase.resolve_left (fun h=>h1 h.1)
   refine aj mixed E fun X=>?_
   simp only [go_sem]
   refine ⟨by decide +kernel,?_⟩
   refine CN ?_ (lA (.inl rfl) hB0 ?_)
   ·simp only [go_sem]
    exact Nat.le_refl _
   ·simp only [go_sem]
    refine ⟨[],?_⟩
    simp only [go_sem]
    rw [hq1,hq2]
  ·rcases hcase with ⟨_,h2⟩ | ⟨_,h2⟩
   ·rw [sS s hn hq]
    refine ⟨by omega,?_⟩
    simp only [if_pos h2]
    refine BS ?_ () (tau [([99],[25])]) rfl ?_
    ·simp only [go_sem]
    ·simp only [go_sem]
   ·exact absurd h2 (fun h=>by omega)
 ·rintro ⟨⟩
  rw [if_neg (Nat.lt_irrefl _)]
  exact x9
end Go.Proofs.YtejpnabbmgpmaaaGreat

