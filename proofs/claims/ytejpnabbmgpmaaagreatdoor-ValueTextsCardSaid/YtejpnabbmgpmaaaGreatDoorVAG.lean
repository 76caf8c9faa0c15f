/-
  Texts read as numbers: what both answers compute. (with the parts that follow it)
-/
import Derived.Test.YtejpnabbmgpmaaaGreatDoorVAF
import Derived.Test.YtejpnabbmgpmaaaGreatDoorVAD
import Derived.Test.YtejpnabbmgpmaaaGreatDoorVAE
import Derived.Test.YtejpnabbmgpmaaaGreatDoorVAC
import Derived.Lib.Bytealg
set_option linter.all false
namespace Go.Proofs.YtejpnabbmgpmaaaGreatDoor
open Go.Ab
def aX (c:UInt8):Bool:=decide (48≤c.toNat) && decide (c.toNat≤57)
def bB (l:List UInt8):Nat:=l.foldl (fun v c=>10*v+(c.toNat-48)) 0
theorem j4 (l:List UInt8) (c:UInt8):bB (l++[c])=10*bB l+(c.toNat-48):=by simp [bB]
theorem oR {l:List UInt8} {i:Nat} (h:i<l.length):l.take (i+1)=l.take i++[l[i]]:=by simp
theorem db {l:List UInt8} {i:Nat} (h:i<l.length):bB (l.take (i+1))=10*bB (l.take i)+(l[i].toNat-48):=by
 rw [oR h,j4]
theorem yi (l:List UInt8) (i:Nat):bB (l.take i)≤bB l:=by
 suffices h:∀ r m:List UInt8,bB m≤bB (m++r) by
  have:=h (l.drop i) (l.take i)
  rwa [List.take_append_drop] at this
 intro r
 induction r with
 | nil=>intro m;simp
 | cons c r ih =>
   intro m
   have h1:=ih (m++[c])
   rw [j4,List.append_assoc] at h1
   have h2:bB (m++c::r)=bB (m++([c]++r)):=rfl
   rw [h2];omega
theorem Dj (l:List UInt8) (h:l.all aX=true) (h0:¬ l.head?=some 48):l.length=0∨10 ^ (l.length-1)≤bB l:=by
 cases l with
 | nil=>exact .inl rfl
 | cons c r =>
   refine .inr ?_
   suffices hh:∀ i,i≤r.length→10 ^ i≤bB ((c::r).take (i+1)) by
    have:=hh r.length (Nat.le_refl _)
    rwa [show r.length+1=(c::r).length from rfl,List.take_length] at this
   intro i
   induction i with
   | zero =>
     intro _
     have hd:=List.all_eq_true.1 h c List.mem_cons_self
     simp only [aX,Bool.and_eq_true,decide_eq_true_eq] at hd
     have:c.toNat≠48:=fun e=>h0 (by
      have:c=48:=UInt8.toNat_inj.1 (by rw [e];rfl)
      subst this;rfl)
     simp [bB];omega
   | succ i ih =>
     intro hi
     rw [db (by simp;omega),Nat.pow_succ]
     have:=ih (by omega)
     omega
def bY (l:List UInt8):Bool:=!l.isEmpty && !(decide (1<l.length) && l.head? == some 48) && l.all aX && decide (bB l≤9223372036854775808)
def bN (neg:Bool) (l:List UInt8):Bool:=bY l && !(neg && decide (bB l=0)) && !(!neg && decide (bB l=9223372036854775808))
def cn (neg:Bool) (l:List UInt8):AV:=.tup [.d (i64 (if bN neg l then (if neg then -(bB l:Int) else bB l) else 0)),.d (i64 (if bN neg l then 0 else 5))]
def qp (s:List UInt8):AV:=if ba s [126] then cn true (s.drop 1) else cn false s
theorem oH {l:List UInt8} (h:bY l=true):1≤l.length∧l.length≤19:=by
 simp only [bY,Bool.and_eq_true,Bool.not_eq_true',decide_eq_true_eq,Bool.and_eq_false_iff,decide_eq_false_iff_not,beq_eq_false_iff_ne] at h
 obtain ⟨⟨⟨h1,h2⟩,h3⟩,h4⟩:=h
 have h0:l.length≠0:=by
  intro e;rw [List.length_eq_zero_iff.1 e] at h1;simp at h1
 refine ⟨by omega,?_⟩
 rcases h2 with h2 | h2
 ·omega
 ·rcases Dj l h3 h2 with h5 | h5
  ·omega
  ·apply Decidable.byContradiction;intro h6
   have:10 ^ 19≤10 ^ (l.length-1):=Nat.pow_le_pow_right (by omega) (by omega)
   omega
theorem e7 {l:List UInt8} {i:Nat} (hi:i<l.length) (h:aX l[i]=false):bY l=false:=by
 cases hd:bY l with
 | false=>rfl
 | true =>
   simp only [bY,Bool.and_eq_true] at hd
   have:=List.all_eq_true.1 hd.1.2 _ (List.getElem_mem hi)
   rw [h] at this;cases this
theorem uM {l:List UInt8} (h1:1<l.length) (h:l.head?=some 48):bY l=false:=by
 simp [bY,h1,h]
theorem o7 {l:List UInt8} {i:Nat} (h:9223372036854775808<bB (l.take i)):bY l=false:=by
 have:=yi l i
 have:¬ bB l≤9223372036854775808:=by omega
 simp [bY,this]
theorem mH {neg:Bool} {l:List UInt8} (h:bY l=false):bN neg l=false:=by simp [bN,h]
theorem fF {neg:Bool} {l:List UInt8} (h:bN neg l=false):cn neg l=.tup [.d (i64 0),.d (i64 5)]:=by simp [cn,h]
theorem jW {l:List UInt8} (h0:1≤l.length) (hlead:¬ (1<l.length∧l.head?=some 48)) (hall:l.all aX=true) (hv:bB l≤9223372036854775808):bY l=true:=by
 simp only [bY,Bool.and_eq_true,Bool.not_eq_true',decide_eq_true_eq,Bool.and_eq_false_iff,decide_eq_false_iff_not,beq_eq_false_iff_ne]
 refine ⟨⟨⟨?_,?_⟩,hall⟩,hv⟩
 ·cases l with
  | nil=>simp at h0
  | cons c r=>rfl
 ·by_cases h:1<l.length
  ·exact .inr fun e=>hlead ⟨h,e⟩
  ·exact .inl h
theorem rD {l:List UInt8} {i:Nat} (hi:i<l.length) (hall:(l.take i).all aX=true) (h:aX l[i]=true):(l.take (i+1)).all aX=true:=by
 rw [oR hi,List.all_append,hall]
 simp [h]
end Go.Proofs.YtejpnabbmgpmaaaGreatDoor

namespace Go.Proofs.YtejpnabbmgpmaaaGreatDoor
open Go.Ab
structure Tok where
 k:Int
 s:List UInt8
 n:Int
 pos:Int
 deriving Inhabited,DecidableEq
structure Fnd where
 t:Tok
 n:Nat
 e:Int
 deriving DecidableEq
def noT:Tok:=⟨0,[],0,0⟩
def du (e:Int):Fnd:=⟨noT,0,e⟩
def gi (t:Tok):D:=.agg [i64 t.k,.str t.s,i64 t.n,i64 t.pos]
def qK (f:Fnd):D:=.agg [i64 f.t.k,.str f.t.s,i64 f.t.n,i64 f.t.pos,i64 f.n,i64 f.e]
def dJ (c:UInt8):Bool:=decide (32≤c.toNat) && decide (c.toNat≤126) && decide (c.toNat≠34) && decide (c.toNat≠92)
def fJ:List UInt8:=[48,49,50,51,52,53,54,55,56,57,97,98,99,100,101,102]
def eP:List UInt8→UInt8 × Nat
 | []=>(0,0)
 | c::r =>
   if c=34∨c=92 then (c,1)
   else if c=110 then (10,1)
   else if c=116 then (9,1)
   else if c=120 then
    match r with
    | a::b::_=>if Lib.indexByte fJ a<0∨Lib.indexByte fJ b<0 then (0,0) else (UInt8.ofNat (16*Lib.indexByte fJ a+Lib.indexByte fJ b).toNat,3)
    | _=>(0,0)
   else (0,0)
def dE:Nat→List UInt8→Nat→List UInt8→List UInt8 × Nat × Int
 | 0,_,_,_=>([],0,5)
 | _+1,[],_,_=>([],0,5)
 | m+1,c::r,i,acc =>
   if c=34 then (if 200<acc.length then ([],0,7) else (acc,i+1,0))
   else if c=92 then (if (eP r).2=0 then ([],0,5) else dE m (r.drop (eP r).2) (i+(eP r).2+1) (acc++[(eP r).1]))
   else if dJ c then dE m r (i+1) (acc++[c])
   else ([],0,5)
def cy:List UInt8→List UInt8 × Nat × Int
 | []=>([],0,5)
 | c::r=>if c=34 then dE r.length.succ r 1 [] else ([],0,5)
def gH:List UInt8→Nat
 | []=>0
 | c::r=>if aX c then gH r+1 else 0
def Ah:List UInt8:=[59,58,44,46,61,60,62,43,45,42,47,94,40,41,123,125,91,93,124,38]
def mT (s:List UInt8) (n:Nat):Fnd :=
 if 20<n then du 7 else if Av (s.take n) then ⟨⟨1,s.take n,0,0⟩,n,0⟩ else if gr ((s.take n).getD 0 0) then ⟨⟨3,s.take n,0,0⟩,n,0⟩ else ⟨⟨2,s.take n,0,0⟩,n,0⟩
def tE (s:List UInt8):Fnd :=
 if bm (s.drop 1)=0∨gr (s.getD 1 0) then du 5 else if 20<bm (s.drop 1) then du 7 else ⟨⟨6,(s.drop 1).take (bm (s.drop 1)),0,0⟩,bm (s.drop 1)+1,0⟩
def tG (neg:Bool) (l:List UInt8):Int × Int:=if bN neg l then (if neg then -(bB l:Int) else bB l,0) else (0,5)
def zK (s:List UInt8):Int × Int:=if ba s [126] then tG true (s.drop 1) else tG false s
def zy (s:List UInt8):Fnd :=
 ⟨⟨4,[],(zK (s.take (gH (s.drop 1)+1))).1,0⟩,gH (s.drop 1)+1,(zK (s.take (gH (s.drop 1)+1))).2⟩
def uf (s:List UInt8):Fnd:=⟨⟨5,(cy s).1,0,0⟩,(cy s).2.1,(cy s).2.2⟩
def n9 (s:List UInt8):Fnd :=
 if ba s [45,62] || ba s [61,61] then ⟨⟨7,s.take 2,0,0⟩,2,0⟩ else if Lib.indexByte Ah (s.getD 0 0)<0 then du 5 else ⟨⟨7,s.take 1,0,0⟩,1,0⟩
def bP (s:List UInt8):Fnd :=
 if 0<bm s then mT s (bm s)
 else if s.getD 0 0=39 then tE s
 else if aX (s.getD 0 0) || decide (s.getD 0 0=126) then zy s
 else if s.getD 0 0=34 then uf s
 else n9 s
def uB:List UInt8:=[32,9,10]
def cN:List UInt8→Option Nat
 | []=>none
 | c::r=>if c=10 then some 0 else (cN r).map (·+1)
def dD:Nat→List UInt8→Nat
 | 0,_=>0
 | _+1,[]=>0
 | m+1,c::r =>
   if c=32∨c=9∨c=10 then dD m r+1
   else if c=35 then
    match cN (c::r) with
    | none=>(c::r).length
    | some k=>k+dD m ((c::r).drop k)
   else 0
def aQ (s:List UInt8):Nat:=dD s.length.succ s
def dA:Nat→List UInt8→Nat→List (Nat × Fnd)
 | 0,_,_=>[]
 | m+1,s,at' =>
   if s.drop (aQ s)=[] then []
   else if (bP (s.drop (aQ s))).e≠0 then [(at'+aQ s,bP (s.drop (aQ s)))]
   else (at'+aQ s,bP (s.drop (aQ s)))::dA m ((s.drop (aQ s)).drop (bP (s.drop (aQ s))).n) (at'+aQ s+(bP (s.drop (aQ s))).n)
def aD (s:List UInt8):List (Nat × Fnd):=dA s.length.succ s 0
def fh:List (Nat × Fnd)→Option (Nat × Int)
 | []=>none
 | q::r=>if q.2.e≠0 then some (q.1,q.2.e) else fh r
def mJ (q:Nat × Fnd):Tok:={ q.2.t with pos:=q.1 }
def cO (s:List UInt8):List Tok × Nat × Int :=
 match fh (aD s) with
 | some (i,e)=>([],i,e)
 | none=>((aD s).map mJ,s.length,0)
end Go.Proofs.YtejpnabbmgpmaaaGreatDoor

namespace Go.Proofs.YtejpnabbmgpmaaaGreatDoor
open Go.Ab
structure PS where
 l:List Tok
 fin:Int
 err:Int
 pos:Int
 nest:Nat
def PS.peek (s:PS):Tok:=match s.l with
 | []=>⟨0,[],0,s.fin⟩
 | t::_=>t
def PS.next (s:PS):PS:={ s with l:=s.l.tail }
def PS.fail (s:PS) (e p:Int):PS:=if s.err=0 then { s with err:=e,pos:=p } else s
def PS.wrong (s:PS):PS:=s.fail 5 s.peek.pos
def PS.is (s:PS) (k:Int) (t:List UInt8):Bool:=!s.l.isEmpty && decide (s.peek.k=k) && decide (s.peek.s=t)
def PS.sees (s:PS) (k:Int) (t:List UInt8):Bool:=decide (s.err=0) && s.is k t
def PS.may (s:PS) (k:Int) (t:List UInt8):PS:=if s.sees k t then s.next else s
def PS.must (s:PS) (k:Int) (t:List UInt8):PS:=if s.sees k t then s.next else s.wrong
def PS.has (s:PS) (k:Int):Bool:=decide (s.err=0) && decide (s.peek.k=k)
def PS.of (s:PS) (k:Int):List UInt8 × PS:=if s.has k then (s.peek.s,s.next) else ([],s.wrong)
abbrev PR:=List EN × PS
def nd0 (k:Int) (pos:Int):EN:=⟨k,0,0,0,0,[],[],[],pos⟩
def bR (n:EN):List EN:=aF n []
def noE:List EN:=bR (nd0 1 0)
def gu (ns:List EN):EN:=ndE ns (ns.length-1)
def eV:List UInt8:=[116,114,117,101]
def cE:List UInt8:=[102,97,108,115,101]
def jS:List UInt8:=[99,97,115,101]
def De:List UInt8:=[102,117,110]
def BS:List UInt8:=[108,101,116]
def iS:List UInt8:=[114,101,99]
def bIn:List UInt8:=[105,110]
def bIf:List UInt8:=[105,102]
def nA:List UInt8:=[116,104,101,110]
def mf:List UInt8:=[101,108,115,101]
def bOf:List UInt8:=[111,102]
def zC:List UInt8:=[101,110,100]
def bTo:List UInt8:=[45,62]
section
variable (ex:PS→PR)
def PS.parted (s:PS) (t:Tok) (l:List EF):PS :=
 if s.err≠0 then s else if l.length=30 then s.fail 8 t.pos else if (l.any fun f=>decide (f.nm=t.s)) then s.fail 5 t.pos else s
def fG (s:PS) (l:List EF):EF × PS :=
 let r:=s.of 2
 (⟨r.1,[],0⟩,((r.2.parted s.peek l).must 7 [61]))
def dW (s:PS) (l:List EF):EF × PS :=
 let r:=s.of 3
 let q:=(r.2.parted s.peek l).of 2
 (⟨r.1,q.1,0⟩,q.2.must 7 bTo)
def bt (between:List UInt8) (part:PS→List EF→EF × PS):Nat→PS→List EF→List (List EN)→List EF × List (List EN) × PS
 | 0,s,l,ks=>(l,ks,s)
 | m+1,s,l,ks =>
   let f:=part s l
   let e:=ex f.2
   if e.2.sees 7 between then bt between part m e.2.next (l++[f.1]) (ks++[e.1]) else (l++[f.1],ks++[e.1],e.2)
def dO (s:PS) (pos:Int):PR :=
 if s.sees 7 [125] then (bR (nd0 11 pos),s.next)
 else
  let r:=bt ex [44] fG s.l.length.succ s [] []
  (aF { nd0 11 pos with l:=r.1 } r.2.1,r.2.2.must 7 [125])
def fT (s:PS) (pos:Int):PR :=
 let e:=ex s
 let s1:=e.2.must 1 bOf
 let r:=bt ex [124] dW s1.l.length.succ s1 [] []
 (aF { nd0 14 pos with l:=r.1 } (e.1::r.2.1),r.2.2.must 1 zC)
def cX (s:PS):PR :=
 let t:=s.peek
 if s.err≠0 then (noE,s.wrong)
 else if t.k=4 then (bR { nd0 1 t.pos with n:=t.n },s.next)
 else if t.k=5 then (bR { nd0 3 t.pos with s:=t.s },s.next)
 else if t.k=2 then (bR { nd0 4 t.pos with name:=t.s },s.next)
 else if s.sees 1 eV then (bR { nd0 2 t.pos with n:=1 },s.next)
 else if s.sees 1 cE then (bR (nd0 2 t.pos),s.next)
 else if s.sees 7 [40] then
  let e:=ex s.next
  (e.1,e.2.must 7 [41])
 else if s.sees 7 [123] then dO ex s.next t.pos
 else if s.sees 1 jS then fT ex s.next t.pos
 else (noE,s.wrong)
def e9:Nat→List EN→PS→PR
 | 0,a,s=>(a,s)
 | m+1,a,s=>if s.sees 7 [46] then e9 m (aF { nd0 12 s.peek.pos with name:=(s.next.of 2).1 } [a]) (s.next.of 2).2 else (a,s)
def cY (s:PS):PR :=
 let r:=cX ex s
 e9 r.2.l.length.succ r.1 r.2
def PS.begins (s:PS):Bool :=
 let t:=s.peek
 decide (t.k=4) || decide (t.k=5) || decide (t.k=2) || (decide (t.k=1) && (decide (t.s=eV) || decide (t.s=cE) || decide (t.s=jS))) || (decide (t.k=7) && (decide (t.s=[40]) || decide (t.s=[123])))
def gx:Nat→List EN→PS→PR
 | 0,a,s=>(a,s)
 | m+1,a,s=>if decide (s.err=0) && s.begins then gx m (aF (nd0 6 (gu a).pos) [a,(cY ex s).1]) (cY ex s).2 else (a,s)
def j2 (s:PS):PR :=
 if s.has 3 then
  let r:=cY ex s.next
  (aF { nd0 13 s.peek.pos with name:=s.peek.s } [r.1],r.2)
 else
  let r:=cY ex s
  gx ex r.2.l.length.succ r.1 r.2
def opS (s:PS):List (List UInt8 × Int)→Option Int
 | []=>none
 | q::r=>if s.sees 7 q.1 then some q.2 else opS s r
def eU:List (List UInt8 × Int):=[([42],3),([47],4)]
def gK:List (List UInt8 × Int):=[([43],1),([45],2),([94],7)]
def iN:List (List UInt8 × Int):=[([60],5),([61,61],6)]
def jd (ops:List (List UInt8 × Int)) (sub:PS→PR):Nat→List EN→PS→PR
 | 0,a,s=>(a,s)
 | m+1,a,s=>match opS s ops with
   | some n=>jd ops sub m (aF { nd0 10 s.peek.pos with n:=n } [a,(sub s.next).1]) (sub s.next).2
   | none=>(a,s)
def iH (s:PS):PR:=jd eU (j2 ex) (j2 ex s).2.l.length.succ (j2 ex s).1 (j2 ex s).2
def su (s:PS):PR:=jd gK (iH ex) (iH ex s).2.l.length.succ (iH ex s).1 (iH ex s).2
def ra (s:PS):PR :=
 let a:=su ex s
 match opS a.2 iN with
 | some n =>
   let b:=su ex a.2.next
   (aF { nd0 10 a.2.peek.pos with n:=n } [a.1,b.1],b.2)
 | none=>a
def qV (s:PS) (pos:Int):PR :=
 let k:Int:=if s.sees 1 iS then 8 else 7
 let x:=(s.may 1 iS).of 2
 let s2:=x.2.must 7 [61]
 let a:=ex s2
 let s3:=if k=8∧(gu a.1).k≠5 then a.2.fail 5 s2.peek.pos else a.2
 let b:=ex (s3.must 1 bIn)
 (aF { nd0 k pos with name:=x.1 } [a.1,b.1],b.2)
def ifS (s:PS) (pos:Int):PR :=
 let a:=ex s
 let b:=ex (a.2.must 1 nA)
 let c:=ex (b.2.must 1 mf)
 (aF (nd0 9 pos) [a.1,b.1,c.1],c.2)
def nR (s:PS):PR :=
 let t:=s.peek
 if s.sees 1 De then
  let x:=s.next.of 2
  let b:=ex (x.2.must 7 bTo)
  (aF { nd0 5 t.pos with name:=x.1 } [b.1],b.2)
 else if s.sees 1 BS then qV ex s.next t.pos
 else if s.sees 1 bIf then ifS ex s.next t.pos
 else ra ex s
end
def gm:Nat→PS→PR
 | 0,s=>(noE,s.fail 6 s.peek.pos)
 | m+1,s=>if s.err≠0 then (noE,s) else
   let r:=nR (gm m) { s with nest:=s.nest+1 }
   (r.1,{ r.2 with nest:=s.nest })
end Go.Proofs.YtejpnabbmgpmaaaGreatDoor

namespace Go.Proofs.YtejpnabbmgpmaaaGreatDoor
open Go.Ab
def PSo (N:Int) (s:PS):Prop:=(∀ t∈s.l,0≤t.pos∧t.pos≤N)∧(0≤s.fin∧s.fin≤N)∧(0≤s.pos∧s.pos≤N)
structure SS (s r:PS):Prop where
 suf:∃ k,r.l=s.l.drop k
 fin:r.fin=s.fin
 nest:r.nest=s.nest
 pos:∀ N,PSo N s→0≤r.pos∧r.pos≤N
theorem SS.refl (s:PS):SS s s:=⟨⟨0,rfl⟩,rfl,rfl,fun _ h=>h.2.2⟩
theorem SS.po {s r:PS} (h:SS s r) {N:Int} (g:PSo N s):PSo N r:=by
 obtain ⟨k,hk⟩:=h.suf
 refine ⟨fun t ht=>?_,by rw [h.fin];exact g.2.1,h.pos N g⟩
 rw [hk] at ht
 exact g.1 t (List.mem_of_mem_drop ht)
theorem SS.trans {a b c:PS} (h:SS a b) (g:SS b c):SS a c:=by
 obtain ⟨k,hk⟩:=h.suf
 obtain ⟨j,hj⟩:=g.suf
 exact ⟨⟨k+j,by rw [hj,hk,List.drop_drop]⟩,g.fin.trans h.fin,g.nest.trans h.nest,fun N hN=>g.pos N (h.po hN)⟩
theorem SS.len {s r:PS} (h:SS s r):r.l.length≤s.l.length:=by
 obtain ⟨k,hk⟩:=h.suf
 rw [hk,List.length_drop];omega
theorem SS.next (s:PS):SS s s.next:=⟨⟨1,by simp [PS.next]⟩,rfl,rfl,fun _ h=>h.2.2⟩
theorem jK {N:Int} {s:PS} (h:PSo N s):0≤s.peek.pos∧s.peek.pos≤N:=by
 unfold PS.peek
 split
 ·exact h.2.1
 ·rename_i t r e
  exact h.1 t (by rw [e];exact List.mem_cons_self)
theorem SS.fail (s:PS) (e p:Int) (h:∀ N,PSo N s→0≤p∧p≤N):SS s (s.fail e p):=by
 unfold PS.fail
 split
 ·exact ⟨⟨0,rfl⟩,rfl,rfl,h⟩
 ·exact SS.refl s
theorem SS.failp (s:PS) (e:Int):SS s (s.fail e s.peek.pos):=SS.fail s e _ fun _ h=>jK h
theorem SS.wrong (s:PS):SS s s.wrong:=SS.failp s 5
theorem SS.may (s:PS) (k:Int) (t:List UInt8):SS s (s.may k t):=by
 unfold PS.may;split
 ·exact SS.next s
 ·exact SS.refl s
theorem SS.must (s:PS) (k:Int) (t:List UInt8):SS s (s.must k t):=by
 unfold PS.must;split
 ·exact SS.next s
 ·exact SS.wrong s
theorem SS.of (s:PS) (k:Int):SS s (s.of k).2:=by
 unfold PS.of;split
 ·exact SS.next s
 ·exact SS.wrong s
theorem aW {s:PS} {k:Int} {t:List UInt8} (h:s.sees k t=true):s.next.l.length+1=s.l.length:=by
 unfold PS.sees PS.is at h
 simp only [Bool.and_eq_true,Bool.not_eq_true',decide_eq_true_eq] at h
 have:s.l≠[]:=by
  intro e;rw [e] at h;simp at h
 show s.l.tail.length+1=_
 rw [List.length_tail]
 have:=List.length_pos_iff.2 this
 omega
theorem eZ {s:PS} {k:Int} (h:s.peek.k=k) (hk:k≠0):s.next.l.length+1=s.l.length:=by
 have:s.l≠[]:=by
  intro e;unfold PS.peek at h;rw [e] at h;exact hk h.symm
 show s.l.tail.length+1=_
 rw [List.length_tail]
 have:=List.length_pos_iff.2 this
 omega
theorem Dg {s:PS} {k:Int} (h:s.has k=true) (hk:k≠0):s.next.l.length+1=s.l.length:=by
 unfold PS.has at h
 simp only [Bool.and_eq_true,decide_eq_true_eq] at h
 exact eZ h.2 hk
def bl (ls:List (List EN)):Nat:=(ls.map List.length).sum
theorem lC:∀ (ls:List (List EN)) (acc:List EN) (rs:List Int),(bO ls acc rs).1.length=acc.length+bl ls
 | [],_,_=>by simp [bO,bl]
 | l::r,acc,rs=>by
   rw [bO,lC r]
   simp [bl,Nat.add_assoc]
theorem cQ (n:EN) (ls:List (List EN)):(aF n ls).length=bl ls+1:=by
 simp [aF,lC]
def e6 (b:Nat) (ns:List EN):Prop:=∀ n∈ns,n.l.length≤b
theorem xm (n:EN) (ks:List Int):(bg n ks).l.length≤n.l.length:=by
 show (if aJ n.k then aU ks (aY n.k) n.l 0 else []).length≤_
 split
 ·rw [dh];exact Nat.le_refl _
 ·exact Nat.zero_le _
theorem rn {b:Nat}:∀ (ls:List (List EN)) (acc:List EN) (rs:List Int),(∀ l∈ls,e6 b l)→e6 b acc→e6 b (bO ls acc rs).1
 | [],_,_,_,h=>h
 | l::r,acc,rs,hl,h=>by
   refine rn r _ _ (fun x hx=>hl x (List.mem_cons_of_mem _ hx)) fun n hn=>?_
   rcases List.mem_append.1 hn with hn | hn
   ·exact h n hn
   ·obtain ⟨m,hm,rfl⟩:=List.mem_map.1 hn
    exact Nat.le_trans (xm _ _) (hl l List.mem_cons_self m hm)
theorem cB {b:Nat} {n:EN} {ls:List (List EN)} (hn:n.l.length≤b) (hl:∀ l∈ls,e6 b l):e6 b (aF n ls):=by
 intro m hm
 rcases List.mem_append.1 hm with hm | hm
 ·exact rn ls [] [] hl (fun _ h=>by cases h) m hm
 ·rw [List.mem_singleton.1 hm]
  exact Nat.le_trans (xm _ _) hn
theorem e6.mono {b c:Nat} {ns:List EN} (h:e6 b ns) (hc:b≤c):e6 c ns:=fun n hn=>Nat.le_trans (h n hn) hc
structure GP (d:Nat) (s:PS) (r:PR):Prop where
 ss:SS s r.2
 tr:Tr r.1
 sz:r.1.length+4*r.2.l.length≤4*s.l.length+d
 wd:e6 (s.l.length+1-r.2.l.length) r.1
theorem GP.pre {d e:Nat} {s s':PS} {r:PR} (h:GP d s' r) (hs:SS s s') (he:4*s'.l.length+d≤4*s.l.length+e):GP e s r :=
 ⟨hs.trans h.ss,h.tr,Nat.le_trans h.sz he,h.wd.mono (by have:=hs.len;omega)⟩
theorem GP.post {d:Nat} {s:PS} {l:List EN} {s' s'':PS} (h:GP d s (l,s')) (hs:SS s' s''):GP d s (l,s'') :=
 ⟨h.ss.trans hs,h.tr,by have:=h.sz;have:=hs.len;simp only at *;omega,h.wd.mono (by have:=hs.len;have:=h.ss.len;simp only at *;omega)⟩
theorem GP.leaf {s s':PS} {n:EN} (hn:cj n=0) (hl:n.l=[]) (hs:SS s s') {d:Nat} (hd:1+4*s'.l.length≤4*s.l.length+d):GP d s (bR n,s') :=
 ⟨hs,.join n [] hn (fun _ h=>by cases h),by show (aF n []).length+_≤_;rw [cQ];simp only [bl,List.map_nil,List.sum_nil];omega,cB (by rw [hl];exact Nat.zero_le _) (fun _ h=>by cases h)⟩
theorem GP.Fb {s s1:PS} {a:PR} {n:EN} {d e:Nat} (ha:GP d s1 a) (hs:SS s s1) (hn:cj n=1) (hl:n.l=[]) (he:4*s1.l.length+d+1≤4*s.l.length+e):GP e s (aF n [a.1],a.2):=by
 have h1:=ha.sz
 have h3:=hs.len
 refine ⟨hs.trans ha.ss,.join n _ hn (fun l h=>by rw [List.mem_singleton.1 h];exact ha.tr),?_,cB (by rw [hl];exact Nat.zero_le _) fun l h=>?_⟩
 ·rw [cQ]
  simp only [bl,List.map_cons,List.map_nil,List.sum_cons,List.sum_nil]
  omega
 ·rw [List.mem_singleton.1 h]
  exact ha.wd.mono (by simp only;omega)
theorem GP.rk {s s1 s2:PS} {a b:PR} {n:EN} {d d' e:Nat} (ha:GP d s1 a) (hb:GP d' s2 b) (hs:SS s s1) (hm:SS a.2 s2) (hn:cj n=2) (hl:n.l=[])
  (he:4*s1.l.length+4*s2.l.length+d+d'+1≤4*s.l.length+4*a.2.l.length+e):GP e s (aF n [a.1,b.1],b.2):=by
 have h1:=ha.sz
 have h2:=hb.sz
 have h3:=hs.len
 have h4:=hm.len
 have h5:=ha.ss.len
 have h6:=hb.ss.len
 refine ⟨((hs.trans ha.ss).trans hm).trans hb.ss,.join n _ hn (fun l h=>?_),?_,cB (by rw [hl];exact Nat.zero_le _) fun l h=>?_⟩
 ·rcases List.mem_cons.1 h with rfl | h
  ·exact ha.tr
  ·rw [List.mem_singleton.1 h];exact hb.tr
 ·rw [cQ]
  simp only [bl,List.map_cons,List.map_nil,List.sum_cons,List.sum_nil]
  omega
 ·rcases List.mem_cons.1 h with rfl | h
  ·exact ha.wd.mono (by simp only;omega)
  ·rw [List.mem_singleton.1 h];exact hb.wd.mono (by simp only;omega)
theorem GP.Hj {s s1 s2 s3:PS} {a b c:PR} {n:EN} {d e:Nat} (ha:GP d s1 a) (hb:GP d s2 b) (hc:GP d s3 c) (hs:SS s s1) (hm:SS a.2 s2) (hm':SS b.2 s3) (hn:cj n=3) (hl:n.l=[])
  (he:4*s1.l.length+3*d+1≤4*s.l.length+e):GP e s (aF n [a.1,b.1,c.1],c.2):=by
 have h1:=ha.sz
 have h2:=hb.sz
 have h2':=hc.sz
 have h3:=hs.len
 have h4:=hm.len
 have h4':=hm'.len
 have h5:=ha.ss.len
 have h6:=hb.ss.len
 have h7:=hc.ss.len
 refine ⟨((((hs.trans ha.ss).trans hm).trans hb.ss).trans hm').trans hc.ss,.join n _ hn (fun l h=>?_),?_,cB (by rw [hl];exact Nat.zero_le _) fun l h=>?_⟩
 ·simp only [List.mem_cons,List.not_mem_nil,or_false] at h
  rcases h with rfl | rfl | rfl
  ·exact ha.tr
  ·exact hb.tr
  ·exact hc.tr
 ·rw [cQ]
  simp only [bl,List.map_cons,List.map_nil,List.sum_cons,List.sum_nil]
  omega
 ·simp only [List.mem_cons,List.not_mem_nil,or_false] at h
  rcases h with rfl | rfl | rfl
  ·exact ha.wd.mono (by simp only;omega)
  ·exact hb.wd.mono (by simp only;omega)
  ·exact hc.wd.mono (by simp only;omega)
end Go.Proofs.YtejpnabbmgpmaaaGreatDoor

namespace Go.Proofs.YtejpnabbmgpmaaaGreatDoor
open Go.Ab
theorem tA (l:List EN):∀ (a:List (List EN)) (acc:List EN) (rs:List Int),bO (a++[l]) acc rs=((bO a acc rs).1++l.map (aZ (bO a acc rs).1.length),(bO a acc rs).2++[(((bO a acc rs).1.length+l.length:Nat):Int)-1])
 | [],_,_=>rfl
 | _::r,_,_=>tA l r _ _
def fM (ls:List (List EN)) (i:Nat):List EN × List Int:=bO (ls.take i) [] []
theorem yX {ls:List (List EN)} {i:Nat} (h:i<ls.length):fM ls (i+1)=((fM ls i).1++ls[i].map (aZ (fM ls i).1.length),(fM ls i).2++[(((fM ls i).1.length+ls[i].length:Nat):Int)-1]):=by
 unfold fM
 rw [List.take_succ_eq_append_getElem h,tA]
theorem Bf (ls:List (List EN)):fM ls ls.length=bO ls [] []:=by rw [fM,List.take_length]
theorem y6 (a b:List (List EN)):bl (a++b)=bl a+bl b:=by simp [bl]
theorem AU {ls:List (List EN)} {i:Nat} (h:i<ls.length):(fM ls i).1.length+ls[i].length≤bl ls:=by
 have h1:(fM ls i).1.length=bl (ls.take i):=by unfold fM;rw [lC];simp
 have h2:bl ls=bl (ls.take i)+bl (ls.drop i):=by rw [← y6,List.take_append_drop]
 have h3:bl (ls.drop i)=ls[i].length+bl (ls.drop (i+1)):=by rw [List.drop_eq_getElem_cons h];unfold bl;rw [List.map_cons,List.sum_cons]
 omega
theorem vf:∀ (ls:List (List EN)) (acc:List EN) (rs:List Int),(bO ls acc rs).2.length=rs.length+ls.length
 | [],_,_=>by simp [bO]
 | l::r,acc,rs=>by rw [bO,vf];simp;omega
theorem ES (ls:List (List EN)) (i:Nat):(fM ls i).2.length≤i:=by unfold fM;rw [vf];simp;omega
def kq (off:Nat) (K:List Int) (x:Nat):List Int:=((K.take x).map fun k:Int=>k+off)++K.drop x
theorem Bk (off:Nat) (K:List Int):kq off K K.length=K.map fun k:Int=>k+off:=by simp [kq]
theorem BR (off:Nat) (K:List Int) (x:Nat):(kq off K x).length=K.length:=by
 simp only [kq,List.length_append,List.length_map,List.length_take,List.length_drop];omega
theorem CG {off:Nat} {K:List Int} {x:Nat} (h:x<K.length):(kq off K x).getD x 0=K.getD x 0:=by
 unfold kq
 rw [List.getD_eq_getElem?_getD,List.getElem?_append_right (by simp;omega)]
 simp [Nat.min_eq_left (Nat.le_of_lt h),h]
theorem yN {off:Nat} {K:List Int} {x:Nat} (h:x<K.length):(kq off K x).set x (K.getD x 0+off)=kq off K (x+1):=by
 have h1:K.take (x+1)=K.take x++[K[x]]:=by simp
 have h2:K.drop x=K[x]::K.drop (x+1):=List.drop_eq_getElem_cons h
 unfold kq
 have h3:((K.take x).map fun k:Int=>k+off).length=x:=by simp;omega
 rw [h1,h2,List.set_append_right _ _ (by omega),h3,Nat.sub_self,List.set_cons_zero,List.map_append,List.append_assoc]
 simp [h]
theorem CQ {ls:List (List EN)} {i:Nat} (h:i<ls.length):(ls.map exD).getD i .nilp=.agg [.sl (some 9) (ls[i].map enD)]:=by simp [h,exD]
theorem qS (M:EN):enD M=.agg [i64 M.k,i64 M.a,i64 M.b,i64 M.c,i64 M.n,.str M.name,.str M.s,.sl (some 3) (M.l.map fD),i64 M.pos]:=rfl
theorem qU {G} (n:EN) (ls:List (List EN)) (hn:n.l.length≤1000000) (hL:ls.length≤1000000) (hS:bl ls≤1000000) (hk:∀ l∈ls,∀ m∈l,fH l.length m) (hw:∀ l∈ls,e6 900000 l) :
  HP Tryz.prog G 77 [enD n,.sl (some 1) (ls.map exD)] (fun r=>r=.d (exD (aF n ls))):=by
 unfold enD efD
 refine aL Tryz.func77 rfl (by decide +kernel) (by simp [Tryz.ntmps77]) (veil fun E=>?_)
 simp only [go_sem]
 refine qy E 6 98 none rfl (by rw [aa];decide) ?_
 simp only [go_sem]
 refine jg E [5] 0 97 (some 9) [.d .nils] rfl rfl (by rw [aa];decide) ?_
 simp only [go_sem]
 refine aC E (X:={ i:Nat // i≤ls.length }) (fun x=>[(2,.bx [2] 0),(4,.bx [4] 0),(5,.bx [5] 0),(6,.vw [98] 0 (fM ls x.1).2.length),(14,.d (.sl (some 1) (ls.map exD))),(15,.d (i64 ls.length)),(16,.d (i64 x.1))])
  (fun x=>[([2],.box [.d (i64 n.k),.d (i64 n.a),.d (i64 n.b),.d (i64 n.c),.d (i64 n.n),.d (.str n.name),.d (.str n.s),.d (.sl (some 3) (n.l.map fD)),.d (i64 n.pos)]),([4],.box [.d .nils]),([5],.box [.vw [97] 0 (fM ls x.1).1.length]),([97],.arr (some 9) ((fM ls x.1).1.map enD)),([98],.arr none ((fM ls x.1).2.map i64))]) [2,4,5,97,98] (fun x=>ls.length-x.1) ⟨0,Nat.zero_le _⟩ id ?_ ?_
 ·simp only [go_sem]
  exact ⟨rfl,rfl,rfl,rfl⟩
 rintro ⟨i,hi⟩ E0
 refine aO E0 fun Q' hQ E'=>?_
 simp only at hi ⊢
 simp only [go_sem]
 refine ah E' (fun h1=>?_) (fun h1=>?_)<;>simp only [go_sem]
 ·have h1':i<ls.length:=by omega
  refine ⟨⟨by omega,by omega⟩,?_⟩
  rw [CQ h1']
  obtain ⟨l,hle⟩:∃ l,l=ls[i]:=⟨_,rfl⟩
  have hmem:l∈ls:=by rw [hle];exact List.getElem_mem h1'
  have hcl:=AU h1'
  have hcs:=yX h1'
  have hcr:=ES ls i
  rw [← hle] at hcl hcs ⊢
  obtain ⟨acc,hacc⟩:∃ acc,acc=(fM ls i).1:=⟨_,rfl⟩
  obtain ⟨rs,hrs⟩:∃ rs,rs=(fM ls i).2:=⟨_,rfl⟩
  rw [← hacc] at hcl hcs
  rw [← hrs] at hcr hcs
  simp only [← hacc,← hrs]
  simp only [go_sem]
  refine aC E' (X:={ j:Nat // j≤l.length }) (fun x=>[(2,.bx [2] 0),(4,.bx [4] 0),(5,.bx [5] 0),(6,.vw [98] 0 rs.length),(14,.d (.sl (some 1) (ls.map exD))),(15,.d (i64 ls.length)),(16,.d (i64 i)),(9,.d (i64 acc.length)),(24,.d (.sl (some 9) (l.map enD))),(25,.d (i64 l.length)),(26,.d (i64 x.1))])
   (fun x=>[([2],.box [.d (i64 n.k),.d (i64 n.a),.d (i64 n.b),.d (i64 n.c),.d (i64 n.n),.d (.str n.name),.d (.str n.s),.d (.sl (some 3) (n.l.map fD)),.d (i64 n.pos)]),([4],.box [.d .nils]),([5],.box [.vw [97] 0 (acc.length+x.1)]),([97],.arr (some 9) ((acc++(l.take x.1).map (aZ acc.length)).map enD)),([98],.arr none (rs.map i64))]) [2,4,5,97,98] (fun x=>l.length-x.1) ⟨0,Nat.zero_le _⟩ id ?_ ?_
  ·simp only [go_sem]
   all_goals first | rfl | simp
  rintro ⟨j,hj⟩ E2
  refine aO E2 fun Q2 hQ2 E3=>?_
  simp only at hj ⊢
  simp only [go_sem]
  refine ah E3 (fun h2=>?_) (fun h2=>?_)<;>simp only [go_sem]
  ·have h2':j<l.length:=by omega
   refine ⟨⟨by omega,by omega⟩,?_⟩
   rw [bA h2',bX h2']
   obtain ⟨m,hm⟩:∃ m,m=l[j]:=⟨_,rfl⟩
   have hmm:m∈l:=by rw [hm];exact List.getElem_mem h2'
   have hmk:=hk l hmem m hmm
   have hml:=hw l hmem m hmm
   rw [← hm]
   simp only [go_sem]
   refine ae E3 [.d (enD m)] [] [] (nZ m (by omega)) rfl rfl ⟨by simp only [go_sem],by rw [aa];decide⟩ rfl (by simp only [go_sem]) (by simp only [go_sem]) ?_
   rintro _ _ ⟨rfl,rfl⟩
   simp only [go_sem]
   have hKl:(an m).length≤1000000:=by
    rw [dn];unfold cj
    have:=cG m.k
    split<;>omega
   have hKk:∀ q,q<(an m).length→0≤(an m).getD q 0∧(an m).getD q 0<l.length:=fun q hq=>hmk _ (by simp [hq])
   have hwm:bg m ((an m).map fun k:Int=>k+acc.length)=aZ acc.length m:=rfl
   obtain ⟨K,hK⟩:∃ K,K=an m:=⟨_,rfl⟩
   rw [← hK] at hKl hKk hwm ⊢
   refine aC E3 (X:={ q:Nat // q≤K.length }) (fun x=>[(2,.bx [2] 0),(4,.bx [4] 0),(5,.bx [5] 0),(6,.vw [98] 0 rs.length),(11,.bx [11] 0),(12,.vw [96] 0 K.length),(14,.d (.sl (some 1) (ls.map exD))),(15,.d (i64 ls.length)),(16,.d (i64 i)),(9,.d (i64 acc.length)),(24,.d (.sl (some 9) (l.map enD))),(25,.d (i64 l.length)),(26,.d (i64 j)),(33,.d (i64 K.length)),(34,.d (i64 x.1))])
    (fun x=>[([2],.box [.d (i64 n.k),.d (i64 n.a),.d (i64 n.b),.d (i64 n.c),.d (i64 n.n),.d (.str n.name),.d (.str n.s),.d (.sl (some 3) (n.l.map fD)),.d (i64 n.pos)]),([4],.box [.d .nils]),([5],.box [.vw [97] 0 (acc.length+j)]),([97],.arr (some 9) ((acc++(l.take j).map (aZ acc.length)).map enD)),([98],.arr none (rs.map i64)),
     ([11],.box [.d (i64 m.k),.d (i64 m.a),.d (i64 m.b),.d (i64 m.c),.d (i64 m.n),.d (.str m.name),.d (.str m.s),.d (.sl (some 3) (m.l.map fD)),.d (i64 m.pos)]),([96],.arr none ((kq acc.length K x.1).map i64))]) [2,4,5,11,96,97,98] (fun x=>K.length-x.1) ⟨0,Nat.zero_le _⟩ (tau [([96],[31,0])]) ?_ ?_
   ·simp only [go_sem]
    all_goals rfl
   rintro ⟨q,hq⟩ E4
   refine aO E4 fun Q4 hQ4 E5=>?_
   simp only at hq ⊢
   simp only [go_sem]
   refine ah E5 (fun h3=>?_) (fun h3=>?_)<;>simp only [go_sem]
   ·have h3':q<K.length:=by omega
    have hpl:=BR acc.length K q
    have hin:=hKk q h3'
    rw [show ((kq acc.length K q).map i64).getD q .nilp=i64 (K.getD q 0) by rw [← CG h3',aR (by omega)]]
    simp only [go_sem]
    refine ⟨⟨by omega,by omega⟩,⟨by omega,by omega⟩,?_⟩
    have hmp:((kq acc.length K q).map i64).set q (.int .i64 (w64 (K.getD q 0+acc.length)))=(kq acc.length K (q+1)).map i64:=by
     rw [ai ⟨by omega,by omega⟩,← yN h3',List.map_set]
    rw [hmp,hQ4]
    simp only [go_sem]
    refine ⟨⟨q+1,by omega⟩,by show K.length-(q+1)<_;omega,id,?_⟩
    rw [ai ⟨by omega,by omega⟩]
    simp only [go_sem]
    all_goals rfl
   ·have hq2:q=K.length:=by omega
    subst hq2
    rw [Bk,hQ4]
    simp only [go_sem]
    refine j3 E3 [96] none ((K.map fun k:Int=>k+acc.length).map i64) rfl ?_
    simp only [go_sem]
    refine ak mixed E3 fun X=>?_
    simp only [go_sem]
    rw [List.take_of_length_le (l:=List.map i64 _) (by simp)]
    refine bp X (vy m (K.map fun k:Int=>k+acc.length) (by omega) (by rw [List.length_map];exact hKl)) rfl rfl (by simp) ?_
    obtain ⟨M,hM⟩:∃ M,M=aZ acc.length m:=⟨_,rfl⟩
    rw [hwm,← hM,qS M]
    simp only [go_sem]
    have hout:List.take (acc.length+j) (List.map enD (acc++List.map (aZ acc.length) (List.take j l)))++[.agg [i64 M.k,i64 M.a,i64 M.b,i64 M.c,i64 M.n,.str M.name,.str M.s,.sl (some 3) (M.l.map fD),i64 M.pos]]=(acc++(l.take (j+1)).map (aZ acc.length)).map enD:=by
     rw [List.take_of_length_le (by simp;omega),List.take_succ_eq_append_getElem h2',← hm]
     simp only [List.map_append,List.map_cons,List.map_nil,← hM,← qS M,List.append_assoc]
    rw [hout]
    refine ⟨by omega,by decide +kernel,?_⟩
    rw [hQ2]
    simp only [go_sem]
    refine ⟨⟨j+1,by omega⟩,by show l.length-(j+1)<_;omega,tau [([97],[51])],?_⟩
    rw [ai ⟨by omega,by omega⟩]
    simp only [go_sem]
    exact ⟨rfl,rfl⟩
  ·rw [hQ2]
   simp only [go_sem]
   have hj2:j=l.length:=by omega
   subst hj2
   have hro:List.map i64 rs++[.int .i64 (w64 (((acc.length+l.length:Nat):Int)-1))]=(rs++[((acc.length+l.length:Nat):Int)-1]).map i64:=by
    rw [ai ⟨by omega,by omega⟩]
    simp only [List.map_append,List.map_cons,List.map_nil]
   rw [hro]
   refine ⟨by omega,?_⟩
   rw [hQ]
   simp only [go_sem]
   refine ⟨⟨i+1,by omega⟩,by show ls.length-(i+1)<_;omega,tau [([98],[60])],?_⟩
   simp only [hcs]
   rw [ai ⟨by omega,by omega⟩]
   simp only [go_sem]
   simp only [List.length_append,List.length_map,List.length_singleton]
   refine ⟨⟨trivial,rfl⟩,?_⟩
   first | rfl | exact ⟨rfl,rfl⟩ | exact ⟨trivial,rfl⟩ | exact ⟨rfl,trivial⟩ | trivial
 ·rw [hQ]
  have hi2:i=ls.length:=by omega
  subst hi2
  rw [Bf]
  obtain ⟨acc,hacc⟩:∃ acc,acc=(bO ls [] []).1:=⟨_,rfl⟩
  obtain ⟨rs,hrs⟩:∃ rs,rs=(bO ls [] []).2:=⟨_,rfl⟩
  have hal:acc.length=bl ls:=by rw [hacc,lC];simp
  have hrl:rs.length=ls.length:=by rw [hrs,vf];simp
  have hj:aF n ls=acc++[bg n rs]:=by unfold aF;rw [← hacc,← hrs]
  rw [← hacc,← hrs]
  simp only [go_sem]
  refine j3 E [98] none (rs.map i64) rfl ?_
  simp only [go_sem]
  refine ak mixed E fun X=>?_
  simp only [go_sem]
  refine bp X (vy n rs hn (by omega)) rfl rfl (by simp) ?_
  obtain ⟨M,hM⟩:∃ M,M=bg n rs:=⟨_,rfl⟩
  rw [← hM,qS M]
  simp only [go_sem]
  have hout:List.map enD acc++[.agg [i64 M.k,i64 M.a,i64 M.b,i64 M.c,i64 M.n,.str M.name,.str M.s,.sl (some 3) (M.l.map fD),i64 M.pos]]=(aF n ls).map enD:=by
   rw [hj,← hM,List.map_append,← qS];rfl
  rw [hout]
  refine ⟨by omega,by decide +kernel,[([68],some 9,(aF n ls).map enD)],?_⟩
  simp only [go_sem]
  rw [List.take_of_length_le (by rw [hj];simp)]
  rfl
end Go.Proofs.YtejpnabbmgpmaaaGreatDoor

namespace Go.Proofs.YtejpnabbmgpmaaaGreatDoor
open Go.Ab
theorem Ey {G} (n:EN):HP Tryz.prog G 105 [enD n] (fun r=>r=.d (.bool (dX n))):=by
 generalize hb:dX n=b
 unfold dX at hb
 have hk:=cG n.k
 unfold enD efD
 refine aj Tryz.func105 rfl (by decide +kernel) (by simp [Tryz.ntmps105]) (veil fun E=>?_)
 simp only [go_sem]
 refine ak mixed E fun X=>?_
 simp only [go_sem]
 refine bp X (lO n.k) rfl rfl (by simp) ?_
 simp only [go_sem]
 refine ⟨⟨by omega,by omega⟩,by decide +kernel,?_⟩
 rw [show ([i64 n.a,i64 n.b,i64 n.c]:List D)=[n.a,n.b,n.c].map i64 from rfl]
 obtain ⟨k,hke⟩:∃ k,k=aY n.k:=⟨_,rfl⟩
 rw [← hke] at hk hb ⊢
 have hL:([n.a,n.b,n.c].drop k).length=3-k:=by simp
 have hget:∀ i,i<3-k→(List.map i64 [n.a,n.b,n.c]).getD (k+i) .nilp=i64 (([n.a,n.b,n.c].drop k).getD i 0):=fun i hi=>by
  rw [aR (by simp;omega),List.getD_eq_getElem?_getD,List.getD_eq_getElem?_getD,List.getElem?_drop]
 generalize ([n.a,n.b,n.c]:List Int)=A at hb hL hget ⊢
 generalize A.drop k=L at hb hL hget
 refine cI E (X:={ i:Nat // i≤3-k∧(L.take i).all (fun x=>decide (x=0))=true }) (fun x=>[(16,.vw [11] k (3-k)),(17,.d (i64 (3-k:Nat))),(18,.d (i64 x.1))])
  (fun x=>[([1],.box [.d (i64 n.k),.d (i64 n.a),.d (i64 n.b),.d (i64 n.c),.d (i64 n.n),.d (.str n.name),.d (.str n.s),.d (.sl (some 3) (n.l.map fD)),.d (i64 n.pos)]),([11],.arr none (A.map i64))]) [11,1] (fun x=>3-k-x.1) ⟨0,by simp⟩ ?_ ?_
 ·simp only [go_sem]
  all_goals rfl
 rintro ⟨i,hi,hall⟩ E0
 refine aO E0 fun Q' hQ E'=>?_
 simp only at hi hall ⊢
 simp only [go_sem]
 refine ah E' (fun g1=>?_) (fun g1=>?_)<;>simp only [go_sem]
 ·have hi':i<3-k:=by omega
  have hi2:i<L.length:=by omega
  have hLi:L.getD i 0=L[i]:=by simp [hi2]
  refine ⟨⟨by omega,by omega⟩,?_⟩
  rw [hget i hi',hLi]
  simp only [go_sem]
  refine aG E' (fun g2=>?_) (fun g2=>?_)<;>simp only [go_sem]
  ·rw [hQ]
   simp only [go_sem]
   have:L.all (fun x=>decide (x=0))=false:=List.all_eq_false.2 ⟨_,List.getElem_mem hi2,by simpa using g2⟩
   rw [← hb,this]
  ·rw [hQ]
   simp only [go_sem]
   have g3:decide (L[i]=0)=true:=by simpa using g2
   refine ⟨⟨i+1,by omega,by rw [List.take_succ_eq_append_getElem hi2,List.all_append,hall];simpa using g3⟩,by show 3-k-(i+1)<_;omega,?_⟩
   rw [ai ⟨by omega,by omega⟩]
   rfl
 ·rw [hQ]
  have h3:i=L.length:=by omega
  subst h3
  rw [List.take_length] at hall
  simp only [go_sem]
  rw [← hb,hall]
theorem Gr {G} (n:EN) (h:eu BIG n):HP Tryz.prog G 54 [enD n] (fun r=>r=.d (.bool (aH n))):=by
 generalize hb:aH n=b
 unfold aH at hb
 have c1:=D9 (G:=G) n h
 have c2:=CM (G:=G) n
 have c3:=DW (G:=G) n h
 have c4:=Ey (G:=G) n
 generalize ej n=x1 at c1 hb
 generalize bS n=x2 at c2 hb
 generalize bd n=x3 at c3 hb
 generalize dX n=x4 at c4 hb
 unfold enD efD at *
 refine aj Tryz.func54 rfl (by decide +kernel) (by simp [Tryz.ntmps54]) (veil fun E=>?_)
 simp only [go_sem]
 repeat (first
  | (apply br E;(· simp only [go_sem]);(· intro h;(try simp only [bq] at h);simp only [↓h,go_sem];rfl);simp only [go_sem])
  | (apply aK E;(· simp only [go_sem]);(· intro h;(try simp only [bq] at h);simp only [↓h,go_sem];rfl);(· intro h;(try simp only [bq] at h);simp only [↓h,go_sem];rfl);simp only [go_sem])
  | (apply aI E;(· simp only [go_sem]);(· rfl);(· intro h h';(try simp only [bq] at h h');simp only [↓h,↓h',go_sem];rfl);simp only [go_sem])
  | (apply aw E;(· simp only [go_sem]);(· rfl);(· intro h h';(try simp only [bq] at h h');simp only [↓h,↓h',go_sem];rfl);(· intro h h';(try simp only [bq] at h h');simp only [↓h,↓h',go_sem];rfl);simp only [go_sem])
  | (apply bo E;(· decide);simp only [go_sem]))
 refine aG E (fun g=>?_) (fun g=>?_)<;>simp only [go_sem]
 ·have g':¬ (1≤n.k∧n.k≤14∧0≤n.pos∧n.pos≤1048576):=by
   simp only [Bool.or_eq_true,decide_eq_true_eq] at g
   omega
  have:(decide (1≤n.k) && decide (n.k≤14) && decide (0≤n.pos) && decide (n.pos≤1048576))=false:=by
   rw [Bool.eq_false_iff]
   intro hc
   simp only [Bool.and_eq_true,decide_eq_true_eq] at hc
   exact g' ⟨hc.1.1.1,hc.1.1.2,hc.1.2,hc.2⟩
  rw [← hb,this,Bool.false_and]
 ·refine ab E (c1) rfl rfl (by simp) ?_
  rintro _ rfl
  simp only [go_sem]
  repeat (first
   | (apply br E;(· simp only [go_sem]);(· intro h;(try simp only [bq] at h);simp only [↓h,go_sem];rfl);simp only [go_sem])
   | (apply aK E;(· simp only [go_sem]);(· intro h;(try simp only [bq] at h);simp only [↓h,go_sem];rfl);(· intro h;(try simp only [bq] at h);simp only [↓h,go_sem];rfl);simp only [go_sem])
   | (apply aI E;(· simp only [go_sem]);(· rfl);(· intro h h';(try simp only [bq] at h h');simp only [↓h,↓h',go_sem];rfl);simp only [go_sem])
   | (apply aw E;(· simp only [go_sem]);(· rfl);(· intro h h';(try simp only [bq] at h h');simp only [↓h,↓h',go_sem];rfl);(· intro h h';(try simp only [bq] at h h');simp only [↓h,↓h',go_sem];rfl);simp only [go_sem])
   | (apply bo E;(· decide);simp only [go_sem]))
  (first | (apply gw E;(· simp only [go_sem]);(· intro h hk;(try simp only [bq] at h);refine ab E (c2) rfl (by simp only [↓h,go_sem]<;>rfl) (by simp) ?_;rintro _ rfl;exact hk);simp only [go_sem]) | (apply eD E;(· simp only [go_sem]);(· rfl);(· intro h h' hk;(try simp only [bq] at h h');refine ab E (c2) rfl (by simp only [↓h,↓h',go_sem]<;>rfl) (by simp) ?_;rintro _ rfl;exact hk);simp only [go_sem]))
  repeat (first
   | (apply br E;(· simp only [go_sem]);(· intro h;(try simp only [bq] at h);simp only [↓h,go_sem];rfl);simp only [go_sem])
   | (apply aK E;(· simp only [go_sem]);(· intro h;(try simp only [bq] at h);simp only [↓h,go_sem];rfl);(· intro h;(try simp only [bq] at h);simp only [↓h,go_sem];rfl);simp only [go_sem])
   | (apply aI E;(· simp only [go_sem]);(· rfl);(· intro h h';(try simp only [bq] at h h');simp only [↓h,↓h',go_sem];rfl);simp only [go_sem])
   | (apply aw E;(· simp only [go_sem]);(· rfl);(· intro h h';(try simp only [bq] at h h');simp only [↓h,↓h',go_sem];rfl);(· intro h h';(try simp only [bq] at h h');simp only [↓h,↓h',go_sem];rfl);simp only [go_sem])
   | (apply bo E;(· decide);simp only [go_sem]))
  (first | (apply gw E;(· simp only [go_sem]);(· intro h hk;(try simp only [bq] at h);refine ab E (c3) rfl (by simp only [↓h,go_sem]<;>rfl) (by simp) ?_;rintro _ rfl;exact hk);simp only [go_sem]) | (apply eD E;(· simp only [go_sem]);(· rfl);(· intro h h' hk;(try simp only [bq] at h h');refine ab E (c3) rfl (by simp only [↓h,↓h',go_sem]<;>rfl) (by simp) ?_;rintro _ rfl;exact hk);simp only [go_sem]))
  repeat (first
   | (apply br E;(· simp only [go_sem]);(· intro h;(try simp only [bq] at h);simp only [↓h,go_sem];rfl);simp only [go_sem])
   | (apply aK E;(· simp only [go_sem]);(· intro h;(try simp only [bq] at h);simp only [↓h,go_sem];rfl);(· intro h;(try simp only [bq] at h);simp only [↓h,go_sem];rfl);simp only [go_sem])
   | (apply aI E;(· simp only [go_sem]);(· rfl);(· intro h h';(try simp only [bq] at h h');simp only [↓h,↓h',go_sem];rfl);simp only [go_sem])
   | (apply aw E;(· simp only [go_sem]);(· rfl);(· intro h h';(try simp only [bq] at h h');simp only [↓h,↓h',go_sem];rfl);(· intro h h';(try simp only [bq] at h h');simp only [↓h,↓h',go_sem];rfl);simp only [go_sem])
   | (apply bo E;(· decide);simp only [go_sem]))
  (first | (apply gw E;(· simp only [go_sem]);(· intro h hk;(try simp only [bq] at h);refine ab E (c4) rfl (by simp only [↓h,go_sem]<;>rfl) (by simp) ?_;rintro _ rfl;exact hk);simp only [go_sem]) | (apply eD E;(· simp only [go_sem]);(· rfl);(· intro h h' hk;(try simp only [bq] at h h');refine ab E (c4) rfl (by simp only [↓h,↓h',go_sem]<;>rfl) (by simp) ?_;rintro _ rfl;exact hk);simp only [go_sem]))
  repeat (first
   | (apply br E;(· simp only [go_sem]);(· intro h;(try simp only [bq] at h);simp only [↓h,go_sem];rfl);simp only [go_sem])
   | (apply aK E;(· simp only [go_sem]);(· intro h;(try simp only [bq] at h);simp only [↓h,go_sem];rfl);(· intro h;(try simp only [bq] at h);simp only [↓h,go_sem];rfl);simp only [go_sem])
   | (apply aI E;(· simp only [go_sem]);(· rfl);(· intro h h';(try simp only [bq] at h h');simp only [↓h,↓h',go_sem];rfl);simp only [go_sem])
   | (apply aw E;(· simp only [go_sem]);(· rfl);(· intro h h';(try simp only [bq] at h h');simp only [↓h,↓h',go_sem];rfl);(· intro h h';(try simp only [bq] at h h');simp only [↓h,↓h',go_sem];rfl);simp only [go_sem])
   | (apply bo E;(· decide);simp only [go_sem]))
  have g':¬ (n.k<1∨14<n.k∨n.pos<0∨1048576<n.pos):=by
   simp only [Bool.or_eq_false_iff,decide_eq_false_iff_not] at g
   omega
  rw [← hb,decide_eq_true (show 1≤n.k by omega),decide_eq_true (show n.k≤14 by omega),decide_eq_true (show 0≤n.pos by omega),decide_eq_true (show n.pos≤1048576 by omega)]
  rfl
end Go.Proofs.YtejpnabbmgpmaaaGreatDoor

namespace Go.Proofs.YtejpnabbmgpmaaaGreatDoor
open Go.Ab
def bump (cs:List Int) (k:Int):List Int:=cs.set k.toNat (cs.getD k.toNat 0+1)
def bumps (cs ks:List Int):List Int:=ks.foldl bump cs
theorem rB (cs:List Int) (k:Int):(bump cs k).length=cs.length:=by simp [bump]
theorem ec (ks:List Int):∀ cs:List Int,(bumps cs ks).length=cs.length:=by
 induction ks with
 | nil=>intro cs;rfl
 | cons k r ih=>intro cs;show (bumps (bump cs k) r).length=_;rw [ih,rB]
theorem l5 (cs ks:List Int) (k:Int):bumps cs (ks++[k])=bump (bumps cs ks) k:=by simp [bumps]
def Bd (M:Nat) (cs:List Int):Prop:=∀ c∈cs,0≤c∧c≤(M:Int)
theorem Bd.bump {M:Nat} {cs:List Int} (h:Bd M cs) (k:Int):Bd (M+1) (bump cs k):=by
 intro c hc
 rcases List.mem_or_eq_of_mem_set hc with hc | hc
 ·have:=h c hc;omega
 ·by_cases hk:k.toNat<cs.length
  ·have:=h cs[k.toNat] (List.getElem_mem hk)
   rw [hc,show cs.getD k.toNat 0=cs[k.toNat] by simp [hk]]
   omega
  ·rw [hc,show cs.getD k.toNat 0=0 by simp [hk]]
   omega
theorem Bd.bumps {ks:List Int}:∀ {M:Nat} {cs:List Int},Bd M cs→Bd (M+ks.length) (bumps cs ks):=by
 induction ks with
 | nil=>intro M cs h;exact h
 | cons k r ih =>
   intro M cs h
   have:=ih (h.bump k)
   rw [List.length_cons]
   intro c hc
   have:=this c hc
   omega
theorem Bd.get {M:Nat} {cs:List Int} (h:Bd M cs) (i:Nat):0≤cs.getD i 0∧cs.getD i 0≤(M:Int):=by
 by_cases hi:i<cs.length
 ·rw [show cs.getD i 0=cs[i] by simp [hi]];exact h _ (List.getElem_mem hi)
 ·rw [show cs.getD i 0=0 by simp [hi]];omega
def inB (i:Nat) (k:Int):Bool:=decide (0≤k) && decide (k<(i:Int))
theorem Gk {G} (ns:List EN) (i:Nat) (cs:List Int) (M:Nat) (hi:i<ns.length) (hn:ns.length≤1000000) (hc:cs.length=ns.length) (hl:(ndE ns i).l.length≤1000000) (hM:Bd M cs) (hM2:M≤1000000000000) :
  HCall Tryz.prog G 55 [.d (exD ns),.d (i64 i),.vw [100] 0 ns.length] [([100],.arr none (cs.map i64))] [100]
   (fun r hp'=>∃ cs':List Int,cs'.length=ns.length∧(cA ns i=true→cs'=bumps cs (an (ndE ns i)))∧r=.d (.bool (cA ns i))∧hp'=[([100],.arr none (cs'.map i64))]):=by
 have hg:=bA hi
 obtain ⟨n,hne⟩:∃ n,n=ndE ns i:=⟨_,rfl⟩
 rw [← hne] at hl hg ⊢
 have hkl:=dn n
 have hwl:cj n≤1000003:=by unfold cj;have:=cG n.k;split<;>omega
 obtain ⟨K,hK⟩:∃ K,K=an n:=⟨_,rfl⟩
 have hlk:cA ns i=(K.all (inB i) && (decide (n.k≠8) || decide ((ndE ns n.a.toNat).k=5))):=by
  unfold cA inB
  rw [← hne,← hK]
 rw [hlk]
 have hkc:=nZ (G:=G) n (by omega)
 rw [← hK] at hkc hkl ⊢
 unfold exD
 refine ao Tryz.func55 rfl (by decide +kernel) (by simp [Tryz.ntmps55]) (veil fun E=>?_)
 simp only [go_sem]
 refine ⟨⟨by omega,by omega⟩,?_⟩
 rw [hg]
 simp only [go_sem]
 refine ae E [.d (enD n)] [] [] hkc rfl rfl ⟨by simp only [go_sem],by rw [aa];decide⟩ rfl (by simp only [go_sem]) (by simp only [go_sem]) ?_
 rintro _ _ ⟨rfl,rfl⟩
 simp only [go_sem]
 refine j3 E [14,0] none (K.map i64) rfl ?_
 simp only [go_sem]
 refine cI E (X:={ q:Nat // q≤K.length∧(K.take q).all (inB i)=true }) (fun x=>[(1,.d (i64 i)),(2,.vw [100] 0 ns.length),(3,.bx [3] 0),(6,.d (.bool false)),(14,.d (.sl none (K.map i64))),(15,.d (i64 K.length)),(16,.d (i64 x.1))])
  (fun x=>[([100],.arr none ((bumps cs (K.take x.1)).map i64)),([3],.box [.d (.sl (some 9) (ns.map enD))])]) [3,100] (fun x=>K.length-x.1) ⟨0,by simp⟩ ?_ ?_
 ·simp only [go_sem]
  all_goals rfl
 rintro ⟨q,hq,hall⟩ E0
 refine aO E0 fun Q' hQ E'=>?_
 simp only at hq hall ⊢
 simp only [go_sem]
 refine ah E' (fun g1=>?_) (fun g1=>?_)<;>simp only [go_sem]
 ·have hq':q<K.length:=by omega
  refine ⟨⟨by omega,by omega⟩,?_⟩
  rw [aR hq',show K.getD q 0=K[q] by simp [hq']]
  simp only [go_sem]
  repeat (first
   | (apply br E';(· simp only [go_sem]);(· intro h;(try simp only [bq] at h);simp only [↓h,go_sem];rfl);simp only [go_sem])
   | (apply aK E';(· simp only [go_sem]);(· intro h;(try simp only [bq] at h);simp only [↓h,go_sem];rfl);(· intro h;(try simp only [bq] at h);simp only [↓h,go_sem];rfl);simp only [go_sem])
   | (apply aI E';(· simp only [go_sem]);(· rfl);(· intro h h';(try simp only [bq] at h h');simp only [↓h,↓h',go_sem];rfl);simp only [go_sem])
   | (apply aw E';(· simp only [go_sem]);(· rfl);(· intro h h';(try simp only [bq] at h h');simp only [↓h,↓h',go_sem];rfl);(· intro h h';(try simp only [bq] at h h');simp only [↓h,↓h',go_sem];rfl);simp only [go_sem])
   | (apply bo E';(· decide);simp only [go_sem]))
  refine aG E' (fun g2=>?_) (fun g2=>?_)<;>simp only [go_sem]
  ·rw [hQ]
   simp only [go_sem]
   have g3:inB i K[q]=false:=by
    rw [Bool.eq_false_iff]
    intro hc
    simp only [inB,Bool.and_eq_true,decide_eq_true_eq] at hc
    simp only [Bool.or_eq_true,decide_eq_true_eq] at g2
    omega
   have ha:K.all (inB i)=false:=List.all_eq_false.2 ⟨_,List.getElem_mem hq',by rw [g3];decide⟩
   refine ⟨_,_,[100],id,⟨bumps cs (K.take q),by rw [ec,hc],fun h=>by (rw [ha,Bool.false_and] at h;cases h),rfl,rfl⟩,?_⟩
   simp only [go_sem]
   rw [ha]
   rfl
  ·have g3:0≤K[q]∧K[q]<(i:Int):=by
    simp only [Bool.or_eq_false_iff,decide_eq_false_iff_not] at g2
    omega
   have g4:inB i K[q]=true:=by simp only [inB,decide_eq_true g3.1,decide_eq_true g3.2,Bool.and_self]
   have hbl:=ec (K.take q) cs
   have hbd:=(hM.bumps (ks:=K.take q)).get K[q].toNat
   have htl:(K.take q).length≤1000003:=by rw [List.length_take];omega
   refine ⟨⟨by omega,by omega⟩,?_⟩
   rw [aR (by omega)]
   simp only [go_sem]
   refine ⟨⟨by omega,by omega⟩,?_⟩
   rw [ai (n:=(bumps cs (K.take q)).getD K[q].toNat 0+1) ⟨by omega,by omega⟩,ai (n:=(q:Int)+1) ⟨by omega,by omega⟩]
   rw [show (List.map i64 (bumps cs (K.take q))).set K[q].toNat (.int .i64 ((bumps cs (K.take q)).getD K[q].toNat 0+1))=(bumps cs (K.take (q+1))).map i64 by
    rw [List.take_succ_eq_append_getElem hq',l5];unfold bump;rw [List.map_set]]
   rw [hQ]
   simp only [go_sem]
   refine ⟨⟨q+1,by omega,by rw [List.take_succ_eq_append_getElem hq',List.all_append,hall];simpa using g4⟩,by show K.length-(q+1)<_;omega,?_⟩
   first | rfl | exact ⟨rfl,rfl⟩
 ·rw [hQ]
  have h3:q=K.length:=by omega
  subst h3
  rw [List.take_length] at *
  simp only [go_sem]
  refine ak mixed E fun X=>?_
  simp only [go_sem]
  refine ⟨⟨by omega,by omega⟩,?_⟩
  rw [hg]
  simp only [go_sem]
  refine CH X (fun g1=>?_) (fun g1=>?_)<;>simp only [go_sem]
  ·refine ⟨by decide +kernel,?_⟩
   refine ⟨_,_,[100],id,⟨bumps cs K,by rw [ec,hc],fun _=>rfl,rfl,rfl⟩,?_⟩
   simp only [go_sem]
   rw [hall,decide_eq_true (show n.k≠8 from g1)]
   rfl
  ·have h8:n.k=8:=by omega
   have hka:K=[n.a,n.b]:=by rw [hK];unfold an;rw [h8];rfl
   have ha:0≤n.a∧n.a<(i:Int):=by
    rw [hka] at hall
    simp only [List.all_cons,inB,Bool.and_eq_true,decide_eq_true_eq] at hall
    exact hall.1
   rw [fV]
   simp only [go_sem]
   refine ⟨⟨by omega,by omega⟩,?_⟩
   rw [hg]
   simp only [go_sem]
   refine ⟨⟨by omega,by omega⟩,?_⟩
   rw [bA (show n.a.toNat<ns.length by omega)]
   simp only [go_sem]
   refine ⟨by decide +kernel,?_⟩
   refine ⟨_,_,[100],id,⟨bumps cs K,by rw [ec,hc],fun _=>rfl,rfl,rfl⟩,?_⟩
   simp only [go_sem]
   rw [hall,decide_eq_false g1]
   rfl
end Go.Proofs.YtejpnabbmgpmaaaGreatDoor

namespace Go.Proofs.YtejpnabbmgpmaaaGreatDoor
open Go.Ab
def bK:List (Name × Ob):=[([0],.boxT (some 53) [.d .nilp,.d .nils])]
def dm (l:List UInt8):List (Name × Ob):=[([0],.boxT (some 53) [.bx [0] 0,.vw [2] 0 l.length]),([2],.arrT (some 5) none (l.map byD))]
def aq (l:List UInt8):List (Name × Ob):=[([0],.boxT (some 53) [.bx [0] 0,.vw [1] 0 l.length]),([1],.arrT (some 5) none (l.map byD))]
theorem noesc (v:Value) (w:World):(callFunc 154 #[v]).run Tryz.prog w=.ok (.value v) w:=by
 rw [run_callFunc_extern Tryz.func154 (by kernel_rfl) (by kernel_rfl) (by kernel_rfl) (e:=Extern.AbiNoEscape.same) (by kernel_rfl)]
 rw [Lib.run_noEscape]
 rfl
theorem Fl:(Tryz.prog.ti 155).k=.oth:=by kernel_rfl
theorem Ea:Tryz.prog.underlying 155=some .unsafePointer:=by kernel_rfl
theorem BB {G}:HCall Tryz.prog G 135 [.bx [0] 0] [([0],.boxT (some 53) [.d .nilp,.vw [1] 0 0]),([1],.arrT (some 5) none [])] [0,1] (fun r hp'=>r=.tup []∧hp'=[([0],.boxT (some 53) [.bx [0] 0,.vw [1] 0 0]),([1],.arrT (some 5) none [])]):=by
 refine ao Tryz.func135 rfl (by decide +kernel) (by simp [Tryz.ntmps135]) (veil fun E=>?_)
 simp only [go_sem]
 refine j6 E (e:=53) true (by rw [mL]) (by simp only [go_sem]) rfl ?_
 simp only [go_sem]
 refine Fh E (e:=53) [0] 0 53 [.d .nilp,.vw [1] 0 0] (by rw [mL]) Ea (by kernel_rfl) (by simp only [go_sem]) rfl rfl (by decide) ?_
 simp only [go_sem]
 refine xb E 154 (.bx [0] 0) noesc (by simp only [go_sem]) rfl rfl ?_
 simp only [go_sem]
 simp only [Fl]
 simp only [go_sem]
 refine Fk E (e:=53) [0] 0 53 [.d .nilp,.vw [1] 0 0] (by rw [mL]) Ea (by kernel_rfl) (by simp only [go_sem]) rfl rfl 2 rfl (by kernel_rfl) ?_
 simp only [go_sem]
 refine ⟨_,_,[0,1],id,⟨rfl,rfl⟩,?_⟩
 simp only [go_sem]
theorem sU {G} (l:List UInt8):HCall Tryz.prog G 135 [.bx [0] 0] (aq l) [0,1] (fun r hp'=>r=.tup []∧hp'=aq l):=by
 unfold aq
 refine ao Tryz.func135 rfl (by decide +kernel) (by simp [Tryz.ntmps135]) (veil fun E=>?_)
 simp only [go_sem]
 refine j6 E (e:=53) false (by rw [mL]) (by simp only [go_sem]) rfl ?_
 simp only [go_sem]
 refine vN E (e:=53) [0] 0 (by rw [mL]) (by kernel_rfl) (by simp only [go_sem]) rfl rfl rfl ?_
 simp only [go_sem]
 refine ⟨_,_,[0,1],id,⟨rfl,rfl⟩,?_⟩
 simp only [go_sem]
theorem nr {G} (c:UInt8):HCall Tryz.prog G 129 [.bx [0] 0,.d (byD c)] bK [0] (fun r hp'=>r=.d .nili∧hp'=dm [c]):=by
 have h0:=BB (G:=G)
 unfold bK dm byD
 refine ao Tryz.func129 rfl (by decide +kernel) (by simp [Tryz.ntmps129]) (veil fun E=>?_)
 simp only [go_sem]
 refine Dh E [0] 1 1 (some 53) (some 5) none [.d .nilp,.d .nils] rfl rfl (by rw [aa];decide) ?_
 refine ae E [.bx [0] 0] [([0],.boxT (some 53) [.d .nilp,.vw [1] 0 0]),([1],.arrT (some 5) none [])] [0,1] h0 rfl rfl ⟨by simp only [go_sem],by show ¬ _∈[1,0];decide⟩ rfl (by simp only [go_sem]) (by simp only [go_sem]) ?_
 rintro _ _ ⟨rfl,rfl⟩
 simp only [go_sem]
 refine oB E (e:=5) (some 5) [1] [13] [] [.int .u8 (c.toNat:Nat)] (by rw [qF]) (by rw [ti5];rfl) (by rw [ti5];rfl) (by rw [ti5];rfl) rfl ⟨by simp only [go_sem],by rw [aa];decide⟩ rfl rfl rfl rfl (by rw [ti5];simp [TI.by1]) ?_
 simp only [go_sem]
 refine ⟨_,_,[0,1,2],tau [([2],[14])],⟨rfl,rfl⟩,?_⟩
 simp only [go_sem]
theorem ck {G} (l:List UInt8) (c:UInt8) (hl:l.length≤1000000):HCall Tryz.prog G 129 [.bx [0] 0,.d (byD c)] (aq l) [0,1] (fun r hp'=>r=.d .nili∧hp'=dm (l++[c])):=by
 have h0:=sU (G:=G) l
 unfold aq at *
 unfold dm
 refine ao Tryz.func129 rfl (by decide +kernel) (by simp [Tryz.ntmps129]) (veil fun E=>?_)
 simp only [go_sem]
 refine ae E [.bx [0] 0] [([0],.boxT (some 53) [.bx [0] 0,.vw [1] 0 l.length]),([1],.arrT (some 5) none (l.map byD))] [0,1] h0 rfl rfl ⟨by simp only [go_sem],by rw [aa];decide⟩ rfl (by simp only [go_sem]) (by simp only [go_sem]) ?_
 rintro _ _ ⟨rfl,rfl⟩
 simp only [go_sem]
 rw [show byD c=.int .u8 (c.toNat:Nat) from rfl]
 simp only [go_sem]
 refine ⟨Nat.le_refl _,?_⟩
 have hlm:(l.map byD).length=l.length:=by simp
 refine oB E (d:=14) (e:=5) (some 5) [1] [13] (l.map byD) [.int .u8 (c.toNat:Nat)] (by rw [qF]) (by rw [ti5];rfl) (by rw [ti5];rfl) (by rw [ti5];rfl) rfl ⟨by simp only [go_sem],by rw [aa];decide⟩ (by rw [hlm];rfl) rfl rfl rfl (by rw [ti5,hlm];simp [TI.by1];omega) ?_
 rw [hlm,show l.map byD++[.int .u8 (c.toNat:Nat)]=(l++[c]).map byD by simp [byD]]
 simp only [go_sem]
 refine ⟨_,_,[0,1,2],tau [([2],[14])],⟨rfl,rfl⟩,?_⟩
 rw [show (l++[c]).length=l.length+1 by simp]
 simp only [go_sem]
theorem Af {G}:HCall Tryz.prog G 169 [.bx [0] 0] bK [0] (fun r hp'=>r=.d (i64 0)∧hp'=bK):=by
 unfold bK
 refine ao Tryz.func169 rfl (by decide +kernel) (by simp [Tryz.ntmps169]) (veil fun E=>?_)
 simp only [go_sem]
 refine ⟨_,_,[0],id,⟨rfl,rfl⟩,?_⟩
 simp only [go_sem]
theorem zT {G} (l:List UInt8):HCall Tryz.prog G 169 [.bx [0] 0] (aq l) [0,1] (fun r hp'=>r=.d (i64 l.length)∧hp'=aq l):=by
 unfold aq
 refine ao Tryz.func169 rfl (by decide +kernel) (by simp [Tryz.ntmps169]) (veil fun E=>?_)
 simp only [go_sem]
 refine ⟨_,_,[0,1],id,⟨rfl,rfl⟩,?_⟩
 simp only [go_sem]
theorem DQ {G}:HCall Tryz.prog G 29 [.bx [0] 0] bK [0] (fun r hp'=>r=.d (.str [])∧hp'=bK):=by
 unfold bK
 refine ao Tryz.func29 rfl (by decide +kernel) (by simp [Tryz.ntmps29]) (veil fun E=>?_)
 simp only [go_sem]
 refine jc 10 mixed E (by simp only [List.take_succ_cons,List.take_zero];exact rfl) (by simp only [List.drop_succ_cons,List.drop_zero];exact rfl) rfl rfl (by decide +kernel) fun X=>?_
 simp only [go_sem]
 refine dH X (d:=4) [0] 0 (some 53) [.d .nilp,.d .nils] (by simp only [go_sem]) rfl rfl ?_
 simp only [go_sem]
 refine F0 X (d:=7) (by simp only [go_sem]) rfl ?_
 simp only [go_sem]
 refine dH X (d:=9) [0] 0 (some 53) [.d .nilp,.d .nils] (by simp only [go_sem]) rfl rfl ?_
 simp only [go_sem]
 refine ⟨by decide +kernel,?_⟩
 refine DD E (by simp only [go_sem]) rfl rfl ?_
 simp only [go_sem]
 refine ⟨_,_,[0],id,⟨rfl,rfl⟩,?_⟩
 simp only [go_sem]
theorem GW:Tryz.prog.cellsOf 5=1:=by kernel_rfl
theorem u91:Tryz.prog.underlying 91=some (.pointer 5):=by kernel_rfl
theorem qc {G} (l:List UInt8) (h0:l≠[]) (hl:l.length≤1000000000):HCall Tryz.prog G 29 [.bx [0] 0] (aq l) [0,1] (fun r hp'=>r=.d (.str l)∧hp'=[]):=by
 unfold aq
 refine ao Tryz.func29 rfl (by decide +kernel) (by simp [Tryz.ntmps29]) (veil fun E=>?_)
 simp only [go_sem]
 refine jc 10 mixed E (by simp only [List.take_succ_cons,List.take_zero];exact rfl) (by simp only [List.drop_succ_cons,List.drop_zero];exact rfl) rfl rfl (by decide +kernel) fun X=>?_
 simp only [go_sem]
 refine dH X (d:=4) [0] 0 (some 53) [.bx [0] 0,.vw [1] 0 l.length] (by simp only [go_sem]) rfl rfl ?_
 simp only [go_sem]
 refine Ih X (d:=7) [1] (some 5) none (l.map byD) l.length (by simp only [go_sem]) rfl rfl (List.length_pos_iff.2 h0) ?_
 simp only [go_sem]
 refine dH X (d:=9) [0] 0 (some 53) [.bx [0] 0,.vw [1] 0 l.length] (by simp only [go_sem]) rfl rfl ?_
 simp only [go_sem]
 refine ⟨by decide +kernel,?_⟩
 refine GG E (e:=5) [1] l (by simp only [go_sem]) u91 GW h0 (by omega) rfl rfl rfl ?_
 simp only [go_sem]
 refine ⟨_,_,[0,1],id,⟨rfl,rfl⟩,?_⟩
 simp only [go_sem]
end Go.Proofs.YtejpnabbmgpmaaaGreatDoor

namespace Go.Proofs.YtejpnabbmgpmaaaGreatDoor
open Go.Ab
theorem p9 (r:List UInt8):(eP r).2≤r.length:=by
 unfold eP
 (repeat' split)<;>simp
theorem vd:∀ (m:Nat) (r:List UInt8) (i:Nat) (acc:List UInt8),(dE m r i acc).2.2=0→i+1≤(dE m r i acc).2.1∧(dE m r i acc).2.1≤i+r.length
 | 0,_,_,_,h=>by simp [dE] at h
 | _+1,[],_,_,h=>by simp [dE] at h
 | m+1,c::r,i,acc,h=>by
   unfold dE at h ⊢
   split at h
   ·rename_i hc
    rw [if_pos hc]
    split at h
    ·simp at h
    ·rename_i h2;rw [if_neg h2];simp only [List.length_cons];omega
   rename_i hc
   rw [if_neg hc]
   split at h
   ·rename_i h1
    rw [if_pos h1]
    split at h
    ·simp at h
    ·rename_i h2
     rw [if_neg h2]
     have ih:=vd m _ _ _ h
     have:=p9 r
     rw [List.length_drop] at ih
     simp only [List.length_cons];omega
   rename_i h1
   rw [if_neg h1]
   split at h
   ·rename_i h2
    rw [if_pos h2]
    have ih:=vd m _ _ _ h
    simp only [List.length_cons];omega
   ·simp at h
theorem Eb {s:List UInt8} (h:(cy s).2.2=0):1≤(cy s).2.1∧(cy s).2.1≤s.length:=by
 cases s with
 | nil=>simp [cy] at h
 | cons c r =>
   simp only [cy] at h ⊢
   by_cases hc:c=34
   ·rw [if_pos hc] at h ⊢
    have:=vd _ _ _ _ h
    simp only [List.length_cons];omega
   ·rw [if_neg hc] at h;simp at h
theorem ju (l:List UInt8):bm l≤l.length:=by
 cases l with
 | nil=>simp [bm]
 | cons c r =>
   rw [ct (by simp)]
   have:=vB ((c::r).drop 1)
   split
   ·simp only [List.drop_succ_cons,List.drop_zero] at this;simp;omega
   ·omega
theorem qg:∀ l:List UInt8,gH l≤l.length
 | []=>Nat.le_refl _
 | c::r=>by
   unfold gH
   have:=qg r
   split<;>simp
   omega
theorem gf {s p:List UInt8} (h:ba s p=true):p.length≤s.length:=by
 simp only [ba,Bool.and_eq_true,decide_eq_true_eq] at h
 exact h.1
theorem Ce {s:List UInt8} (hs:s≠[]) (h:(bP s).e=0):1≤(bP s).n∧(bP s).n≤s.length:=by
 have h0:=List.length_pos_iff.2 hs
 unfold bP at h ⊢
 split at h
 ·rename_i hw
  rw [if_pos hw]
  unfold mT at h ⊢
  have:=ju s
  split at h
  ·simp [du] at h
  rename_i h1
  rw [if_neg h1]
  (repeat' split)<;>(simp only;omega)
 rename_i hw
 rw [if_neg hw]
 split at h
 ·rename_i h1
  rw [if_pos h1]
  unfold tE at h ⊢
  split at h
  ·simp [du] at h
  rename_i h2
  rw [if_neg h2]
  split at h
  ·simp [du] at h
  rename_i h3
  rw [if_neg h3]
  have:=ju (s.drop 1)
  rw [List.length_drop] at this
  have h4:¬ bm (s.drop 1)=0:=fun e=>h2 (.inl e)
  simp only;omega
 rename_i h1
 rw [if_neg h1]
 split at h
 ·rename_i h2
  rw [if_pos h2]
  unfold zy
  have:=qg (s.drop 1)
  rw [List.length_drop] at this
  simp only;omega
 rename_i h2
 rw [if_neg h2]
 split at h
 ·rename_i h3
  rw [if_pos h3]
  exact Eb h
 rename_i h3
 rw [if_neg h3]
 unfold n9 at h ⊢
 split at h
 ·rename_i h4
  rw [if_pos h4]
  simp only [Bool.or_eq_true] at h4
  rcases h4 with h4 | h4
  ·have:=gf h4;simp at this;simp only;omega
  ·have:=gf h4;simp at this;simp only;omega
 rename_i h4
 rw [if_neg h4]
 split at h
 ·simp [du] at h
 ·rename_i h5;rw [if_neg h5];simp only;omega
theorem w9:∀ (m:Nat) (s:List UInt8) (at':Nat),∀ q∈dA m s at',q.1≤at'+s.length
 | 0,_,_,_,h=>by simp [dA] at h
 | m+1,s,at',q,h=>by
   unfold dA at h
   split at h
   ·cases h
   rename_i hd
   have h0:=List.length_pos_iff.2 hd
   rw [List.length_drop] at h0
   split at h
   ·rw [List.mem_singleton.1 h];simp only;omega
   rename_i he
   have hn:=Ce hd (by simpa using he)
   rw [List.length_drop] at hn
   rcases List.mem_cons.1 h with rfl | h
   ·simp only;omega
   ·have:=w9 m _ _ q h
    simp only [List.length_drop] at this
    omega
theorem jU:∀ (m:Nat) (s:List UInt8) (at':Nat),(dA m s at').length≤s.length
 | 0,_,_=>by simp [dA]
 | m+1,s,at'=>by
   unfold dA
   split
   ·simp
   rename_i hd
   have h0:=List.length_pos_iff.2 hd
   rw [List.length_drop] at h0
   split
   ·simp;omega
   rename_i he
   have hn:=Ce hd (by simpa using he)
   rw [List.length_drop] at hn
   have:=jU m ((s.drop (aQ s)).drop (bP (s.drop (aQ s))).n) (at'+aQ s+(bP (s.drop (aQ s))).n)
   simp only [List.length_drop,List.length_cons] at this ⊢
   omega
theorem si:∀ {l:List (Nat × Fnd)} {q:Nat × Int},fh l=some q→∃ x∈l,x.1=q.1
 | [],_,h=>by cases h
 | a::r,q,h=>by
   unfold fh at h
   split at h
   ·cases h;exact ⟨a,List.mem_cons_self,rfl⟩
   ·obtain ⟨x,hx,e⟩:=si h
    exact ⟨x,List.mem_cons_of_mem _ hx,e⟩
theorem qG:∀ {l:List (Nat × Fnd)} {q:Nat × Int},fh l=some q→q.2≠0
 | [],_,h=>by cases h
 | a::r,q,h=>by
   unfold fh at h
   split at h
   ·rename_i g;cases h;exact g
   ·exact qG h
theorem FF (s:List UInt8):(cO s).2.1≤s.length∧(∀ t∈(cO s).1,0≤t.pos∧t.pos≤s.length)∧(cO s).1.length≤s.length∧((cO s).2.2=0→(cO s).2.1=s.length):=by
 have hin:=w9 s.length.succ s 0
 unfold cO
 split
 ·rename_i i e h
  obtain ⟨x,hx,hxe⟩:=si h
  have:=hin x hx
  have:=qG h
  refine ⟨by simp only at *;omega,fun _ h=>(by cases h),Nat.zero_le _,fun h=>absurd h this⟩
 ·refine ⟨Nat.le_refl _,fun t ht=>?_,?_,fun _=>rfl⟩
  ·obtain ⟨q,hq,rfl⟩:=List.mem_map.1 ht
   have:=hin q hq
   show 0≤(q.1:Int)∧(q.1:Int)≤_
   omega
  ·rw [List.length_map];exact jU _ _ _
end Go.Proofs.YtejpnabbmgpmaaaGreatDoor

namespace Go.Proofs.YtejpnabbmgpmaaaGreatDoor
open Go.Ab
theorem Gq (l:List UInt8) (c:UInt8) (w:World):(callFunc 167 #[.string ⟨l.toArray⟩,.int .u8 (c.toNat:Nat)]).run Tryz.prog w=.ok (.value (.int .i64 (Lib.indexByte l c))) w:=by
 rw [run_callFunc_extern Tryz.func167 (by kernel_rfl) (by kernel_rfl) (by kernel_rfl) (e:=Extern.BytealgIndexByte.indexByte) (by kernel_rfl)]
 rw [Lib.run_indexByteString]
 simp [Result.andThen]
theorem D7 {G} (l:List UInt8) (c:UInt8):HP Tryz.prog G 155 [.str l,u8 c] (fun r=>r=.d (i64 (Lib.indexByte l c))):=by
 unfold u8
 refine aj Tryz.func155 rfl (by decide +kernel) (by simp [Tryz.ntmps155]) (veil fun E=>?_)
 simp only [go_sem]
 refine Ii E 167 [.str l,.int .u8 (c.toNat:Nat)] [.string ⟨l.toArray⟩,.int .u8 (c.toNat:Nat)] (.int .i64 (Lib.indexByte l c)) (.int .i64 (Lib.indexByte l c)) rfl rfl (Gq l c) (by simp only [go_sem]) rfl rfl ?_
 simp only [go_sem]
theorem jM {G} (l:List UInt8) (c:UInt8):HP Tryz.prog G 136 [.str l,u8 c] (fun r=>r=.d (i64 (Lib.indexByte l c))):=by
 refine aj Tryz.func136 rfl (by decide +kernel) (by simp [Tryz.ntmps136]) (veil fun E=>?_)
 simp only [go_sem]
 refine ab E (D7 l c) rfl rfl (by simp) ?_
 rintro _ rfl
 simp only [go_sem]
theorem vU {G} (s p:List UInt8):HP Tryz.prog G 158 [.str s,.str p] (fun r=>r=.d (.bool (ba s p))):=by
 refine aj Tryz.func158 rfl (by decide +kernel) (by simp [Tryz.ntmps158]) (veil fun E=>?_)
 simp only [go_sem]
 refine ab E (wO s p) rfl rfl (by simp) ?_
 rintro _ rfl
 simp only [go_sem]
theorem p8 {G} (c:UInt8):HP Tryz.prog G 130 [u8 c] (fun r=>r=.d (.bool (dJ c))):=by
 unfold u8
 refine aj Tryz.func130 rfl (by decide +kernel) (by simp [Tryz.ntmps130]) (veil fun E=>?_)
 simp only [go_sem]
 repeat (first
  | (apply br E;(· simp only [go_sem]);(· intro h;(try simp only [bq] at h);simp only [↓h,go_sem];rfl);simp only [go_sem])
  | (apply aK E;(· simp only [go_sem]);(· intro h;(try simp only [bq] at h);simp only [↓h,go_sem];rfl);(· intro h;(try simp only [bq] at h);simp only [↓h,go_sem];rfl);simp only [go_sem])
  | (apply aI E;(· simp only [go_sem]);(· rfl);(· intro h h';(try simp only [bq] at h h');simp only [↓h,↓h',go_sem];rfl);simp only [go_sem])
  | (apply aw E;(· simp only [go_sem]);(· rfl);(· intro h h';(try simp only [bq] at h h');simp only [↓h,↓h',go_sem];rfl);(· intro h h';(try simp only [bq] at h h');simp only [↓h,↓h',go_sem];rfl);simp only [go_sem])
  | (apply bo E;(· decide);simp only [go_sem]))
 have hp:(((decide (32≤((c.toNat:Nat):Int)) && decide (((c.toNat:Nat):Int)≤126)) && decide (¬ ((c.toNat:Nat):Int)=34)) && decide (¬ ((c.toNat:Nat):Int)=92))=dJ c:=by
  unfold dJ
  rw [Bool.eq_iff_iff];simp;omega
 rw [hp]
theorem cV {c:UInt8} (d:UInt8) (h:((c.toNat:Nat):Int)=(d.toNat:Nat)):c=d:=UInt8.toNat_inj.1 (by omega)
theorem bc {c:UInt8} (d:UInt8) (h:¬ ((c.toNat:Nat):Int)=(d.toNat:Nat)):¬ c=d:=fun e=>h (by rw [e])
def DN (c:UInt8) (r:List UInt8):UInt8 × Nat:=if c=110 then (10,1) else if c=116 then (9,1) else if c=120 then (match r with | a::b::_=>if Lib.indexByte fJ a<0∨Lib.indexByte fJ b<0 then (0,0) else (UInt8.ofNat (16*Lib.indexByte fJ a+Lib.indexByte fJ b).toNat,3) | _=>(0,0)) else (0,0)
theorem Cb (c:UInt8) (r:List UInt8):eP (c::r)=if c=34∨c=92 then (c,1) else DN c r:=rfl
theorem C3 (c:UInt8) (r:List UInt8) (h:c=34∨c=92):eP (c::r)=(c,1):=by rw [Cb,if_pos h]
theorem D3 (c:UInt8) (r:List UInt8) (h:¬ (c=34∨c=92)):eP (c::r)=DN c r:=by rw [Cb,if_neg h]
theorem Fs (c:UInt8):∀ l:List UInt8,Lib.indexByte l c<l.length∨l=[]
 | []=>.inr rfl
 | b::l=>by
   left
   have:=Fs c l
   unfold Lib.indexByte
   split
   ·simp only [List.length_cons];omega
   split
   ·simp only [List.length_cons];omega
   ·rcases this with h | h
    ·simp only [List.length_cons];omega
    ·rename_i h1 h2
     subst h
     exact absurd rfl h2
theorem zn (c:UInt8):Lib.indexByte fJ c<16:=by
 rcases Fs c fJ with h | h
 ·exact h
 ·cases h
theorem wm {G} (s:List UInt8) (hl:s.length≤1000000):HP Tryz.prog G 170 [.str s] (fun r=>r=.tup [.d (u8 (eP s).1),.d (i64 (eP s).2)]):=by
 unfold u8
 refine aj Tryz.func170 rfl (by decide +kernel) (by simp [Tryz.ntmps170]) (veil fun E=>?_)
 simp only [go_sem]
 refine aG E (fun h=>?_) (fun h=>?_)<;>simp only [go_sem]
 ·have h0:s=[]:=by simpa using h
  subst h0
  rfl
 cases s with
 | nil=>simp at h
 | cons c r =>
 have hc0:(c::r).getD 0 0=c:=rfl
 simp only [List.length_cons] at hl
 refine ⟨by simp,?_⟩
 rw [hc0]
 have key1:c=34∨c=92→eP (c::r)=(c,1):=C3 c r
 have key0:¬ (c=34∨c=92)→eP (c::r)=DN c r:=D3 c r
 refine ah E (fun h1=>?_) (fun h1=>?_)<;>simp only [go_sem]
 ·refine ah E (fun _=>?_) (fun h2=>absurd h1 h2)<;>simp only [go_sem]
  refine ⟨by simp,?_⟩
  rw [key1 (.inl (cV 34 h1))]
  rfl
 refine ah E (fun h2=>?_) (fun h2=>?_)<;>simp only [go_sem]
 ·refine ⟨by simp,?_⟩
  rw [key1 (.inr (cV 92 h2))]
  rfl
 have key:=key0 (fun h=>h.elim (bc 34 h1) (bc 92 h2))
 unfold DN at key
 refine ah E (fun h3=>?_) (fun h3=>?_)<;>simp only [go_sem]
 ·rw [key,if_pos (cV 110 h3)];rfl
 rw [if_neg (bc 110 h3)] at key
 refine ah E (fun h4=>?_) (fun h4=>?_)<;>simp only [go_sem]
 ·rw [key,if_pos (cV 116 h4)];rfl
 rw [if_neg (bc 116 h4)] at key
 refine ah E (fun h5=>?_) (fun h5=>?_)<;>simp only [go_sem]
 rotate_left
 ·rw [key,if_neg (bc 120 h5)];rfl
 rw [if_pos (cV 120 h5)] at key
 refine ah E (fun h6=>?_) (fun h6=>?_)<;>simp only [go_sem]
 ·have h7:eP (c::r)=(0,0):=by
   match r,h6,key with
   | [],_,key=>exact key
   | [_],_,key=>exact key
   | _::_::_,h6,_=>simp only [List.length_cons] at h6;omega
  rw [h7];rfl
 obtain ⟨a,b,r',rfl⟩:∃ a b r',r=a::b::r':=by
  match r,h6 with
  | [],h6=>exact absurd (by simp) h6
  | [_],h6=>exact absurd (by simp) h6
  | a::b::r',_=>exact ⟨a,b,r',rfl⟩
 simp only at key
 refine ak mixed E fun X=>?_
 simp only [go_sem]
 have ha:=zn a
 have hb:=zn b
 refine ⟨by omega,?_⟩
 rw [show (c::a::b::r').getD 1 0=a from rfl]
 refine bp X (jM fJ a) rfl rfl (by simp) ?_
 simp only [go_sem]
 refine ⟨by omega,?_⟩
 rw [show (c::a::b::r').getD 2 0=b from rfl]
 refine bp X (jM fJ b) rfl rfl (by simp) ?_
 simp only [go_sem]
 generalize Lib.indexByte fJ a=x at ha key
 generalize Lib.indexByte fJ b=y at hb key
 refine ⟨by decide +kernel,?_⟩
 repeat (first
  | (apply br E;(· simp only [go_sem]);(· intro h;(try simp only [bq] at h);simp only [↓h,go_sem];rfl);simp only [go_sem])
  | (apply aK E;(· simp only [go_sem]);(· intro h;(try simp only [bq] at h);simp only [↓h,go_sem];rfl);(· intro h;(try simp only [bq] at h);simp only [↓h,go_sem];rfl);simp only [go_sem])
  | (apply aI E;(· simp only [go_sem]);(· rfl);(· intro h h';(try simp only [bq] at h h');simp only [↓h,↓h',go_sem];rfl);simp only [go_sem])
  | (apply aw E;(· simp only [go_sem]);(· rfl);(· intro h h';(try simp only [bq] at h h');simp only [↓h,↓h',go_sem];rfl);(· intro h h';(try simp only [bq] at h h');simp only [↓h,↓h',go_sem];rfl);simp only [go_sem])
  | (apply bo E;(· decide);simp only [go_sem]))
 refine aG E (fun h7=>?_) (fun h7=>?_)<;>simp only [go_sem]
 ·rw [key,if_pos (by simpa using h7)];rfl
 ·have h8:0≤x∧0≤y:=by
   have:¬ (x<0∨y<0):=by simpa using h7
   omega
  rw [key,if_neg (by omega),ai (n:=16*x) ⟨by omega,by omega⟩,ai ⟨by omega,by omega⟩]
  obtain ⟨n,hn⟩:∃ n:Nat,16*x+y=n:=⟨(16*x+y).toNat,by omega⟩
  rw [hn,Int.toNat_natCast]
  have h9:n<256:=by omega
  have h10:IntKind.u8.wrap (n:Int)=((UInt8.ofNat n).toNat:Nat):=by
   rw [UInt8.toNat_ofNat']
   simp [IntKind.wrap,IntKind.bits,IntKind.signed]
  rw [h10]
  rfl
end Go.Proofs.YtejpnabbmgpmaaaGreatDoor

namespace Go.Proofs.YtejpnabbmgpmaaaGreatDoor
open Go.Ab
def zg:List UInt8→List (Name × Ob)
 | []=>bK
 | c::r=>aq (c::r)
theorem ic (l:List UInt8) (c:UInt8):zg (l++[c])=aq (l++[c]):=by cases l<;>rfl
structure TkI (s:List UInt8) (i:Nat) (acc:List UInt8) (m:Nat):Prop where
 h1:1≤i
 hi:i≤s.length
 ha:acc.length≤i
 hm:(s.drop i).length<m
 he:dE m (s.drop i) i acc=cy s
theorem TkI.init {c:UInt8} {r:List UInt8} (hc:c=34):TkI (c::r) 1 [] r.length.succ :=
 ⟨Nat.le_refl _,by simp,by simp,by simp,by simp only [List.drop_succ_cons,List.drop_zero,cy,if_pos hc]⟩
theorem TkI.fin {s:List UInt8} {i m:Nat} {acc:List UInt8} (h:TkI s i acc m) (hi:s.length≤i):cy s=([],0,5):=by
 rw [← h.he,List.drop_eq_nil_of_le hi]
 cases m<;>rfl
theorem TkI.cases {s:List UInt8} {i m:Nat} {acc:List UInt8} (h:TkI s i acc m) (hi:i<s.length):∃ m',m=m'+1∧s.drop i=s.getD i 0::s.drop (i+1):=by
 obtain ⟨m',rfl⟩:∃ m',m=m'+1:=⟨m-1,by have:=h.hm;omega⟩
 exact ⟨m',rfl,by rw [List.drop_eq_getElem_cons hi];simp [hi]⟩
theorem TkI.mark {s:List UInt8} {i m:Nat} {acc:List UInt8} (h:TkI s i acc m) (hi:i<s.length) (hc:s.getD i 0=34):cy s=if 200<acc.length then ([],0,7) else (acc,i+1,0):=by
 obtain ⟨m',rfl,hd⟩:=h.cases hi
 rw [← h.he,hd,dE,if_pos hc]
theorem TkI.bad {s:List UInt8} {i m:Nat} {acc:List UInt8} (h:TkI s i acc m) (hi:i<s.length) (hc:¬ s.getD i 0=34) (hs:s.getD i 0=92) (he:(eP (s.drop (i+1))).2=0):cy s=([],0,5):=by
 obtain ⟨m',rfl,hd⟩:=h.cases hi
 rw [← h.he,hd,dE,if_neg hc,if_pos hs,if_pos he]
theorem TkI.odd {s:List UInt8} {i m:Nat} {acc:List UInt8} (h:TkI s i acc m) (hi:i<s.length) (hc:¬ s.getD i 0=34) (hs:¬ s.getD i 0=92) (hp:dJ (s.getD i 0)=false):cy s=([],0,5):=by
 obtain ⟨m',rfl,hd⟩:=h.cases hi
 rw [← h.he,hd,dE,if_neg hc,if_neg hs,if_neg (by rw [hp];simp)]
theorem TkI.esc {s:List UInt8} {i m:Nat} {acc:List UInt8} (h:TkI s i acc m) (hi:i<s.length) (hc:¬ s.getD i 0=34) (hs:s.getD i 0=92) (he:¬ (eP (s.drop (i+1))).2=0) :
  TkI s (i+(eP (s.drop (i+1))).2+1) (acc++[(eP (s.drop (i+1))).1]) (m-1):=by
 obtain ⟨m',rfl,hd⟩:=h.cases hi
 have hl:=p9 (s.drop (i+1))
 rw [List.length_drop] at hl
 have hm:=h.hm
 have ha:=h.ha
 rw [List.length_drop] at hm
 refine ⟨by omega,by omega,by simp;omega,by rw [List.length_drop];omega,?_⟩
 rw [← h.he,hd,dE,if_neg hc,if_pos hs,if_neg he,List.drop_drop,Nat.add_sub_cancel]
 congr 2
 omega
theorem TkI.plain {s:List UInt8} {i m:Nat} {acc:List UInt8} (h:TkI s i acc m) (hi:i<s.length) (hc:¬ s.getD i 0=34) (hs:¬ s.getD i 0=92) (hp:dJ (s.getD i 0)=true):TkI s (i+1) (acc++[s.getD i 0]) (m-1):=by
 obtain ⟨m',rfl,hd⟩:=h.cases hi
 have hm:=h.hm
 have ha:=h.ha
 rw [List.length_drop] at hm
 refine ⟨by omega,by omega,by simp;omega,by rw [List.length_drop];omega,?_⟩
 rw [← h.he,hd,dE,if_neg hc,if_neg hs,if_pos hp,Nat.add_sub_cancel]
set_option maxHeartbeats 1000000 in
theorem CS {G} (s:List UInt8) (hl:s.length≤1000000):HP Tryz.prog G 157 [.str s] (fun r=>r=.tup [.d (.str (cy s).1),.d (i64 (cy s).2.1),.d (i64 (cy s).2.2)]):=by
 refine aj Tryz.func157 rfl (by decide +kernel) (by simp [Tryz.ntmps157]) (veil fun E=>?_)
 simp only [go_sem]
 cases s with
 | nil =>
   simp only [go_sem]
   rfl
 | cons c r =>
 refine bz E (fun h=>absurd h (by simp)) (fun h=>?_)<;>simp only [go_sem]
 refine ⟨by simp,?_⟩
 refine ah E (fun h1=>?_) (fun h1=>?_)<;>simp only [go_sem]
 ·have h2:cy (c::r)=([],0,5):=by
   unfold cy
   simp only
   rw [if_neg (bc 34 h1)]
  rw [h2];rfl
 have hc:c=34:=Classical.byContradiction fun h=>h1 (fun e=>h (cV 34 e))
 obtain ⟨s,hs⟩:∃ s,s=c::r:=⟨_,rfl⟩
 have hI0:=TkI.init (r:=r) hc
 rw [← hs] at hl hI0
 simp only [← hs]
 refine aC E (X:={ x:Nat × List UInt8 × Nat // TkI s x.1 x.2.1 x.2.2 }) (fun x=>[(0,.d (.str s)),(5,.bx [0] 0),(6,.d (i64 x.1.1))]) (fun x=>zg x.1.2.1) [0,1] (fun x=>s.length-x.1.1) ⟨(1,[],r.length.succ),hI0⟩ (tau [([0],[5])]) ?_ ?_
 ·unfold zg bK
  simp only [go_sem]
 rintro ⟨⟨i,acc,m⟩,hI⟩ E0
 refine aO E0 fun Q' hQ E'=>?_
 simp only at hI ⊢
 have hi:=hI.hi
 have ha:=hI.ha
 cases acc with
 | nil =>
   simp only [zg]
   unfold bK
   simp only [go_sem]
   refine ah E' (fun h1=>?_) (fun h1=>?_)<;>simp only [go_sem]
   rotate_left
   ·rw [hQ]
    simp only [go_sem]
    rw [← hs,hI.fin (by omega)]
    rfl
   have h1':i<s.length:=by omega
   refine ⟨⟨by omega,by omega⟩,?_⟩
   refine ah E' (fun h2=>?_) (fun h2=>?_)<;>simp only [go_sem]
   ·have hmk:=hI.mark h1' (cV 34 h2)
    refine ae E' [.bx [0] 0] bK [0] Af rfl rfl ⟨by simp only [go_sem],by rw [aa];decide⟩ rfl (by unfold bK;simp only [go_sem]) (by unfold bK;simp only [go_sem]) ?_
    rintro _ _ ⟨rfl,rfl⟩
    unfold bK
    simp only [go_sem]
    refine ae E' [.bx [0] 0] bK [0] DQ rfl rfl ⟨by simp only [go_sem],by rw [aa];decide⟩ rfl (by unfold bK;simp only [go_sem]) (by unfold bK;simp only [go_sem]) ?_
    rintro _ _ ⟨rfl,rfl⟩
    unfold bK
    simp only [go_sem]
    rw [ai ⟨by omega,by omega⟩,hQ]
    simp only [go_sem]
    rw [← hs,hmk]
    rfl
   refine ah E' (fun h3=>?_) (fun h3=>?_)<;>simp only [go_sem]
   ·have h2n:=bc 34 h2
    have h3y:=cV 92 h3
    rw [ai (n:=(i:Int)+1) ⟨by omega,by omega⟩]
    refine ⟨⟨by omega,by omega⟩,?_⟩
    rw [show ((i:Int)+1).toNat=i+1 by omega,List.take_of_length_le (l:=s.drop (i+1)) (by rw [List.length_drop];omega)]
    have hel:=p9 (s.drop (i+1))
    have hbad:=hI.bad h1' h2n h3y
    have hesc:=hI.esc h1' h2n h3y
    rw [List.length_drop] at hel
    refine ab E' (wm (s.drop (i+1)) (by rw [List.length_drop];omega)) rfl rfl (by simp) ?_
    rintro _ rfl
    obtain ⟨y,n,hyn⟩:∃ y n,eP (s.drop (i+1))=(y,n):=⟨_,_,rfl⟩
    rw [hyn] at hel hbad hesc ⊢
    simp only at hel hbad hesc
    simp only [go_sem]
    refine ah E' (fun h4=>?_) (fun h4=>?_)<;>simp only [go_sem]
    ·rw [hQ]
     simp only [go_sem]
     rw [← hs,hbad (by omega)]
     rfl
    ·have hI2:=hesc (by omega)
     refine ae E' [.bx [0] 0,.d (byD y)] bK [0] (nr y ) rfl rfl ⟨by simp only [go_sem],by rw [aa];decide⟩ rfl (by (unfold bK);simp only [go_sem]) (by (unfold bK);simp only [go_sem]) ?_
     rintro _ _ ⟨rfl,rfl⟩
     unfold dm
     (unfold bK)
     simp only [go_sem]
     rw [ai (n:=(n:Int)+1) ⟨by omega,by omega⟩,ai ⟨by omega,by omega⟩,hQ]
     simp only [go_sem]
     refine ⟨⟨(i+n+1,[]++[y],m-1),hI2⟩,by show s.length-(i+n+1)<_;omega,tau [([1],[46,2])],?_⟩
     rw [show (⟨(i+n+1,[]++[y],m-1),hI2⟩:{ x:Nat × List UInt8 × Nat // TkI s x.1 x.2.1 x.2.2 }).1.2.1=[]++[y] from rfl,ic]
     unfold aq
     simp only [go_sem]
     rw [show ((i+n+1:Nat):Int)=(i:Int)+((n:Int)+1) by omega]
   ·have h2n:=bc 34 h2
    have h3n:=bc 92 h3
    refine ab E' (p8 (s.getD i 0)) rfl rfl (by simp) ?_
    rintro _ rfl
    simp only [go_sem]
    refine aG E' (fun h4=>?_) (fun h4=>?_)<;>simp only [go_sem]
    ·have hI2:=hI.plain h1' h2n h3n h4
     refine ae E' [.bx [0] 0,.d (byD (s.getD i 0))] bK [0] (nr (s.getD i 0) ) rfl rfl ⟨by simp only [go_sem],by rw [aa];decide⟩ rfl (by (unfold bK);simp only [go_sem]) (by (unfold bK);simp only [go_sem]) ?_
     rintro _ _ ⟨rfl,rfl⟩
     unfold dm
     (unfold bK)
     simp only [go_sem]
     rw [ai ⟨by omega,by omega⟩,hQ]
     simp only [go_sem]
     refine ⟨⟨(i+1,[]++[s.getD i 0],m-1),hI2⟩,by show s.length-(i+1)<_;omega,tau [([1],[55,2])],?_⟩
     rw [show (⟨(i+1,[]++[s.getD i 0],m-1),hI2⟩:{ x:Nat × List UInt8 × Nat // TkI s x.1 x.2.1 x.2.2 }).1.2.1=[]++[s.getD i 0] from rfl,ic]
     unfold aq
     simp only [go_sem]
     all_goals rfl
    ·rw [hQ]
     simp only [go_sem]
     rw [← hs,hI.odd h1' h2n h3n h4]
     rfl
 | cons a0 acc0 =>
   simp only [zg]
   obtain ⟨acc,hacc⟩:∃ acc,acc=a0::acc0:=⟨_,rfl⟩
   have hne:acc≠[]:=by rw [hacc];simp
   rw [← hacc] at hI ha
   simp only [← hacc]
   unfold aq
   simp only [go_sem]
   refine ah E' (fun h1=>?_) (fun h1=>?_)<;>simp only [go_sem]
   rotate_left
   ·rw [hQ]
    simp only [go_sem]
    rw [← hs,hI.fin (by omega)]
    rfl
   have h1':i<s.length:=by omega
   refine ⟨⟨by omega,by omega⟩,?_⟩
   refine ah E' (fun h2=>?_) (fun h2=>?_)<;>simp only [go_sem]
   ·have hmk:=hI.mark h1' (cV 34 h2)
    refine ae E' [.bx [0] 0] (aq acc) [0,1] (zT acc) rfl rfl ⟨by simp only [go_sem],by rw [aa];decide⟩ rfl (by unfold aq;simp only [go_sem]) (by unfold aq;simp only [go_sem]) ?_
    rintro _ _ ⟨rfl,rfl⟩
    unfold aq
    simp only [go_sem]
    refine ⟨Nat.le_refl _,?_⟩
    refine ah E' (fun h5=>?_) (fun h5=>?_)<;>simp only [go_sem]
    ·rw [hQ]
     simp only [go_sem]
     rw [← hs,hmk,if_pos (by omega)]
     rfl
    refine ae E' [.bx [0] 0] (aq acc) [0,1] (qc acc hne (by omega)) rfl rfl ⟨by simp only [go_sem],by rw [aa];decide⟩ rfl (by unfold aq;simp only [go_sem]) (by unfold aq;simp only [go_sem]) ?_
    rintro _ _ ⟨rfl,rfl⟩
    unfold aq
    simp only [go_sem]
    rw [ai ⟨by omega,by omega⟩,hQ]
    simp only [go_sem]
    rw [← hs,hmk,if_neg (by omega)]
    rfl
   refine ah E' (fun h3=>?_) (fun h3=>?_)<;>simp only [go_sem]
   ·have h2n:=bc 34 h2
    have h3y:=cV 92 h3
    rw [ai (n:=(i:Int)+1) ⟨by omega,by omega⟩]
    refine ⟨⟨by omega,by omega⟩,?_⟩
    rw [show ((i:Int)+1).toNat=i+1 by omega,List.take_of_length_le (l:=s.drop (i+1)) (by rw [List.length_drop];omega)]
    have hel:=p9 (s.drop (i+1))
    have hbad:=hI.bad h1' h2n h3y
    have hesc:=hI.esc h1' h2n h3y
    rw [List.length_drop] at hel
    refine ab E' (wm (s.drop (i+1)) (by rw [List.length_drop];omega)) rfl rfl (by simp) ?_
    rintro _ rfl
    obtain ⟨y,n,hyn⟩:∃ y n,eP (s.drop (i+1))=(y,n):=⟨_,_,rfl⟩
    rw [hyn] at hel hbad hesc ⊢
    simp only at hel hbad hesc
    simp only [go_sem]
    refine ah E' (fun h4=>?_) (fun h4=>?_)<;>simp only [go_sem]
    ·rw [hQ]
     simp only [go_sem]
     rw [← hs,hbad (by omega)]
     rfl
    ·have hI2:=hesc (by omega)
     refine ae E' [.bx [0] 0,.d (byD y)] (aq acc) [0,1] (ck acc y (by omega)) rfl rfl ⟨by simp only [go_sem],by rw [aa];decide⟩ rfl (by (unfold aq);simp only [go_sem]) (by (unfold aq);simp only [go_sem]) ?_
     rintro _ _ ⟨rfl,rfl⟩
     unfold dm
     (unfold aq)
     simp only [go_sem]
     rw [ai (n:=(n:Int)+1) ⟨by omega,by omega⟩,ai ⟨by omega,by omega⟩,hQ]
     simp only [go_sem]
     refine ⟨⟨(i+n+1,acc++[y],m-1),hI2⟩,by show s.length-(i+n+1)<_;omega,tau [([1],[46,2])],?_⟩
     rw [show (⟨(i+n+1,acc++[y],m-1),hI2⟩:{ x:Nat × List UInt8 × Nat // TkI s x.1 x.2.1 x.2.2 }).1.2.1=acc++[y] from rfl,ic]
     unfold aq
     simp only [go_sem]
     rw [show ((i+n+1:Nat):Int)=(i:Int)+((n:Int)+1) by omega]
   ·have h2n:=bc 34 h2
    have h3n:=bc 92 h3
    refine ab E' (p8 (s.getD i 0)) rfl rfl (by simp) ?_
    rintro _ rfl
    simp only [go_sem]
    refine aG E' (fun h4=>?_) (fun h4=>?_)<;>simp only [go_sem]
    ·have hI2:=hI.plain h1' h2n h3n h4
     refine ae E' [.bx [0] 0,.d (byD (s.getD i 0))] (aq acc) [0,1] (ck acc (s.getD i 0) (by omega)) rfl rfl ⟨by simp only [go_sem],by rw [aa];decide⟩ rfl (by (unfold aq);simp only [go_sem]) (by (unfold aq);simp only [go_sem]) ?_
     rintro _ _ ⟨rfl,rfl⟩
     unfold dm
     (unfold aq)
     simp only [go_sem]
     rw [ai ⟨by omega,by omega⟩,hQ]
     simp only [go_sem]
     refine ⟨⟨(i+1,acc++[s.getD i 0],m-1),hI2⟩,by show s.length-(i+1)<_;omega,tau [([1],[55,2])],?_⟩
     rw [show (⟨(i+1,acc++[s.getD i 0],m-1),hI2⟩:{ x:Nat × List UInt8 × Nat // TkI s x.1 x.2.1 x.2.2 }).1.2.1=acc++[s.getD i 0] from rfl,ic]
     unfold aq
     simp only [go_sem]
     all_goals rfl
    ·rw [hQ]
     simp only [go_sem]
     rw [← hs,hI.odd h1' h2n h3n h4]
     rfl
end Go.Proofs.YtejpnabbmgpmaaaGreatDoor

namespace Go.Proofs.YtejpnabbmgpmaaaGreatDoor
open Go.Ab
theorem Aj {c:UInt8} {n:Nat} (hn:n<256):((c.toNat:Nat):Int)=(n:Int)↔c=UInt8.ofNat n:=by
 constructor
 ·intro h
  apply UInt8.toNat_inj.1
  rw [UInt8.toNat_ofNat']
  omega
 ·rintro rfl
  rw [UInt8.toNat_ofNat']
  omega
theorem rH {c:UInt8} (h:((c.toNat:Nat):Int)<48):aX c=false:=by
 unfold aX;rw [decide_eq_false (by omega)];rfl
theorem l0 {c:UInt8} (h:57<((c.toNat:Nat):Int)):aX c=false:=by
 unfold aX;rw [decide_eq_false (p:=c.toNat≤57) (by omega),Bool.and_false]
theorem rX {c:UInt8} (h1:¬ ((c.toNat:Nat):Int)<48) (h2:¬ 57<((c.toNat:Nat):Int)):aX c=true:=by
 unfold aX;rw [decide_eq_true (by omega),decide_eq_true (by omega)];rfl
theorem kD {l:List UInt8} (h:1≤l.length):l.head?=some (l.getD 0 0):=by
 cases l with
 | nil=>simp at h
 | cons c r=>rfl
end Go.Proofs.YtejpnabbmgpmaaaGreatDoor

namespace Go.Proofs.YtejpnabbmgpmaaaGreatDoor
open Go.Ab
theorem yV (s:ByteArray) (pos:Nat) (hb:128≤(s.get! (pos+0)).toNat):58≤(Utf8.decode s pos).1:=by
 unfold Utf8.decode
 simp only [Utf8.runeError]
 repeat' split
 all_goals (try simp only [Bool.and_eq_true,decide_eq_true_eq] at *)
 all_goals omega
theorem lQ {l:List UInt8} {pos:Nat} (h:pos<l.length):(Utf8.decode ⟨l.toArray⟩ pos=(l[pos].toNat,1))∨(58≤(Utf8.decode ⟨l.toArray⟩ pos).1∧aX l[pos]=false):=by
 have hs:pos<(⟨l.toArray⟩:ByteArray).size:=by simpa [ByteArray.size] using h
 have e:(⟨l.toArray⟩:ByteArray)[pos]'hs=l[pos]:=by rfl
 have e2:(⟨l.toArray⟩:ByteArray).get! (pos+0)=l[pos]:=by
  show (⟨l.toArray⟩:ByteArray).get! pos=_
  simp [ByteArray.get!,getElem!_pos,h]
 by_cases ha:l[pos].toNat<128
 ·have:=decode_ascii ⟨l.toArray⟩ pos hs (by rw [e];exact ha)
  rw [e] at this
  exact .inl this
 ·refine .inr ⟨yV _ _ (by rw [e2];omega),l0 (by omega)⟩
def u4 (l:List UInt8):AV:=.tup [.d (i64 (if bY l then -(bB l:Int) else 0)),.d (i64 (if bY l then 0 else 5))]
theorem dQ {l:List UInt8} (h:bY l=false):u4 l=.tup [.d (i64 0),.d (i64 5)]:=by simp [u4,h]
theorem Fe {c:UInt8} (h:aX c=true):w64 (IntKind.i32.wrap (((c.toNat:Nat):Int)-48))=((c.toNat-48:Nat):Int):=by
 simp only [aX,Bool.and_eq_true,decide_eq_true_eq] at h
 have e:IntKind.i32.wrap (((c.toNat:Nat):Int)-48)=((c.toNat-48:Nat):Int):=by
  simp only [IntKind.wrap,IntKind.bits,IntKind.signed]
  simp
  split<;>omega
 rw [e,ai ⟨by omega,by omega⟩]
theorem BX {d:Nat} (h:d≤9):w64 ((w64 (-9223372036854775808+((d:Nat):Int))).tdiv 10) = -(((9223372036854775808-d) / 10:Nat):Int):=by
 have h1:w64 (-9223372036854775808+((d:Nat):Int)) = -9223372036854775808+((d:Nat):Int):=ai ⟨by omega,by omega⟩
 rw [h1]
 have h2:=Fy (-9223372036854775808+((d:Nat):Int))
 rw [if_pos (by omega)] at h2
 rw [h2,ai ⟨by omega,by omega⟩]
 omega
theorem vY {G} (l:List UInt8):HP Tryz.prog G 168 [.str l] (fun r=>r=u4 l):=by
 refine aj Tryz.func168 rfl (by decide +kernel) (by simp [Tryz.ntmps168]) (veil fun E=>?_)
 simp only [go_sem]
 refine bz E (fun h0=>?_) (fun h0=>?_)<;>simp only [go_sem]
 ·have:l=[]:=by simpa using h0
  subst this;rfl
 have h0:1≤l.length:=by
  cases l with
  | nil=>simp at h0
  | cons c r=>simp
 refine ar E (fun h1=>?_) (fun h1=>?_)<;>simp only [go_sem]
 ·refine ⟨by omega,?_⟩
  refine ah E (fun h4=>?_) (fun h4=>?_)<;>simp only [go_sem]
  ·have:bY l=false:=uM (by omega) (by rw [kD (by omega)];congr 1;exact (Aj (n:=48) (by omega)).1 h4)
   rw [dQ this]
  ·refine tn E l (by rw [ti9]) rfl (by simp) (by simp [aa]) ?_
   simp only [go_sem]
   refine cI E (X:={ i:Nat // i≤l.length∧(l.take i).all aX=true∧bB (l.take i)≤9223372036854775808 }) (fun x=>[(0,.d (.str l)),(4,.d (i64 (-(bB (l.take x.1):Nat)))),(21,.it [21])]) (fun x=>[([21],.siter l x.1)]) [21] (fun x=>l.length-x.1) ⟨0,by simp,by simp,by simp [bB]⟩ ?_ ?_
   ·simp only [go_sem]
    simp [bB]
   rintro ⟨i,hi,hall,hvi⟩ E0
   refine aO E0 fun Q' hQ E'=>?_
   simp only at hi hall hvi ⊢
   simp only [go_sem]
   refine wC E' [21] l i rfl rfl (by simp) (fun hi'=>?_) (fun hi'=>?_)<;>simp only [go_sem]
   ·rcases lQ hi' with e | ⟨e1,e2⟩
    ·rw [e]
     refine ar E' (fun h7=>?_) (fun h7=>?_)<;>simp only [go_sem]
     ·rw [hQ]
      simp only [go_sem]
      rw [dQ (e7 hi' (rH h7))]
     refine ah E' (fun h8=>?_) (fun h8=>?_)<;>simp only [go_sem]
     ·rw [hQ]
      simp only [go_sem]
      rw [dQ (e7 hi' (l0 h8))]
     have hd:=rX h7 h8
     have hdv:l[i].toNat-48≤9:=by
      simp only [aX,Bool.and_eq_true,decide_eq_true_eq] at hd
      omega
     rw [Fe hd,BX hdv]
     refine ah E' (fun h9=>?_) (fun h9=>?_)<;>simp only [go_sem]
     ·rw [hQ]
      simp only [go_sem]
      rw [dQ (o7 (i:=i+1) (by rw [db hi'];omega))]
     ·rw [hQ]
      simp only [go_sem]
      have hle:10*bB (l.take i)+(l[i].toNat-48)≤9223372036854775808:=by omega
      refine ⟨⟨i+1,by omega,rD hi' hall hd,by rw [db hi'];exact hle⟩,by show l.length-(i+1)<_;omega,?_,rfl⟩
      show AV.d (D.int IntKind.i64 _)=AV.d (i64 (-((bB (l.take (i+1)):Nat):Int)))
      rw [db hi']
      congr 2
      simp only [p5]
      repeat' split
      all_goals omega
    ·refine ar E' (fun h7=>?_) (fun h7=>?_)<;>simp only [go_sem]
     ·omega
     refine ah E' (fun h8=>?_) (fun h8=>?_)<;>simp only [go_sem]
     ·rw [hQ]
      simp only [go_sem]
      rw [dQ (e7 hi' e2)]
     ·omega
   ·rw [hQ]
    simp only [go_sem]
    have hil:i=l.length:=by omega
    subst hil
    rw [List.take_length] at hall hvi ⊢
    have hlead:¬ (1<l.length∧l.head?=some 48):=by
     rintro ⟨g1,g2⟩
     first
      | exact h4 ((Aj (n:=48) (by omega)).2 (by rw [kD (by omega)] at g2;exact Option.some.inj g2))
      | omega
    have hok:=jW h0 hlead hall hvi
    simp [u4,hok]
 ·refine tn E l (by rw [ti9]) rfl (by simp) (by simp [aa]) ?_
  simp only [go_sem]
  refine cI E (X:={ i:Nat // i≤l.length∧(l.take i).all aX=true∧bB (l.take i)≤9223372036854775808 }) (fun x=>[(0,.d (.str l)),(4,.d (i64 (-(bB (l.take x.1):Nat)))),(21,.it [21])]) (fun x=>[([21],.siter l x.1)]) [21] (fun x=>l.length-x.1) ⟨0,by simp,by simp,by simp [bB]⟩ ?_ ?_
  ·simp only [go_sem]
   simp [bB]
  rintro ⟨i,hi,hall,hvi⟩ E0
  refine aO E0 fun Q' hQ E'=>?_
  simp only at hi hall hvi ⊢
  simp only [go_sem]
  refine wC E' [21] l i rfl rfl (by simp) (fun hi'=>?_) (fun hi'=>?_)<;>simp only [go_sem]
  ·rcases lQ hi' with e | ⟨e1,e2⟩
   ·rw [e]
    refine ar E' (fun h7=>?_) (fun h7=>?_)<;>simp only [go_sem]
    ·rw [hQ]
     simp only [go_sem]
     rw [dQ (e7 hi' (rH h7))]
    refine ah E' (fun h8=>?_) (fun h8=>?_)<;>simp only [go_sem]
    ·rw [hQ]
     simp only [go_sem]
     rw [dQ (e7 hi' (l0 h8))]
    have hd:=rX h7 h8
    have hdv:l[i].toNat-48≤9:=by
     simp only [aX,Bool.and_eq_true,decide_eq_true_eq] at hd
     omega
    rw [Fe hd,BX hdv]
    refine ah E' (fun h9=>?_) (fun h9=>?_)<;>simp only [go_sem]
    ·rw [hQ]
     simp only [go_sem]
     rw [dQ (o7 (i:=i+1) (by rw [db hi'];omega))]
    ·rw [hQ]
     simp only [go_sem]
     have hle:10*bB (l.take i)+(l[i].toNat-48)≤9223372036854775808:=by omega
     refine ⟨⟨i+1,by omega,rD hi' hall hd,by rw [db hi'];exact hle⟩,by show l.length-(i+1)<_;omega,?_,rfl⟩
     show AV.d (D.int IntKind.i64 _)=AV.d (i64 (-((bB (l.take (i+1)):Nat):Int)))
     rw [db hi']
     congr 2
     simp only [p5]
     repeat' split
     all_goals omega
   ·refine ar E' (fun h7=>?_) (fun h7=>?_)<;>simp only [go_sem]
    ·omega
    refine ah E' (fun h8=>?_) (fun h8=>?_)<;>simp only [go_sem]
    ·rw [hQ]
     simp only [go_sem]
     rw [dQ (e7 hi' e2)]
    ·omega
  ·rw [hQ]
   simp only [go_sem]
   have hil:i=l.length:=by omega
   subst hil
   rw [List.take_length] at hall hvi ⊢
   have hlead:¬ (1<l.length∧l.head?=some 48):=by
    rintro ⟨g1,g2⟩
    first
     | exact h4 ((Aj (n:=48) (by omega)).2 (by rw [kD (by omega)] at g2;exact Option.some.inj g2))
     | omega
   have hok:=jW h0 hlead hall hvi
   simp [u4,hok]
end Go.Proofs.YtejpnabbmgpmaaaGreatDoor

namespace Go.Proofs.YtejpnabbmgpmaaaGreatDoor
open Go.Ab
theorem ry {l:List UInt8} (h:bY l=true):bB l≤9223372036854775808:=by
 simp only [bY,Bool.and_eq_true,decide_eq_true_eq] at h
 exact h.2
theorem neg_zero {l:List UInt8} (h:bB l=0):cn true l=.tup [.d (i64 0),.d (i64 5)]:=fF (by simp [bN,h])
theorem BY {l:List UInt8} (hd:bY l=true) (h:bB l≠0):cn true l=.tup [.d (i64 (-(bB l:Int))),.d (i64 0)]:=by
 have:bN true l=true:=by simp [bN,hd,h]
 simp [cn,this]
theorem Gw {G} (s:List UInt8) (hp:ba s [126]=true):HP Tryz.prog G 156 [.str s] (fun r=>r=cn true (s.drop 1)):=by
 refine aj Tryz.func156 rfl (by decide +kernel) (by simp [Tryz.ntmps156]) (veil fun E=>?_)
 simp only [go_sem]
 refine ab E (pK s [126]) rfl rfl (by simp) ?_
 rintro _ rfl
 simp only [hp,List.length_cons,List.length_nil]
 simp only [go_sem]
 refine ab E (vY (s.drop 1)) rfl rfl (by simp) ?_
 rintro _ rfl
 simp only [u4]
 by_cases hd:bY (s.drop 1)=true
 ·have hle:=ry hd
  simp only [hd,if_true]
  simp only [go_sem]
  refine ar E (fun h1=>?_) (fun h1=>?_)<;>simp only [go_sem]
  ·rw [neg_zero (by omega)]
  ·rw [BY hd (by omega)]
 ·simp only [hd,if_false]
  simp only [go_sem]
  rw [fF (mH (by simpa using hd))]
theorem Hc {G} (s:List UInt8) (hp:ba s [126]=false):HP Tryz.prog G 156 [.str s] (fun r=>r=cn false s):=by
 refine aj Tryz.func156 rfl (by decide +kernel) (by simp [Tryz.ntmps156]) (veil fun E=>?_)
 simp only [go_sem]
 refine ab E (pK s [126]) rfl rfl (by simp) ?_
 rintro _ rfl
 simp only [hp,List.length_cons,List.length_nil]
 simp only [go_sem]
 refine ab E (vY s) rfl rfl (by simp) ?_
 rintro _ rfl
 simp only [u4]
 by_cases hd:bY s=true
 ·have hle:=ry hd
  simp only [hd,if_true]
  simp only [go_sem]
  refine ah E (fun h1=>?_) (fun h1=>?_)<;>simp only [go_sem]
  ·have:bN false s=false:=by simp [bN];intro _;omega
   rw [fF this]
  ·have:bN false s=true:=by simp [bN,hd];omega
   simp [cn,this]
   rw [ai ⟨by omega,by omega⟩]
 ·simp only [hd,if_false]
  simp only [go_sem]
  rw [fF (mH (by simpa using hd))]
theorem wA {G} (s:List UInt8):HP Tryz.prog G 156 [.str s] (fun r=>r=qp s):=by
 unfold qp
 cases hp:ba s [126] with
 | true=>exact Gw s hp
 | false=>exact Hc s hp
theorem uh (u:Nat) (h:¬ u<10):Lib.decDigits u=Lib.decDigits (u / 10)++[UInt8.ofNat (48+u % 10)]:=by
 rw [Lib.decDigits,dif_neg h]
theorem qu (u:Nat) (h:u<10):Lib.decDigits u=[UInt8.ofNat (48+u)]:=by
 rw [Lib.decDigits,dif_pos h]
theorem y9 {d:Nat} (h:d<10):aX (UInt8.ofNat (48+d))=true∧(UInt8.ofNat (48+d)).toNat=48+d:=by
 have e:(UInt8.ofNat (48+d)).toNat=48+d:=by rw [UInt8.toNat_ofNat'];omega
 refine ⟨?_,e⟩
 unfold aX
 rw [e,decide_eq_true (by omega),decide_eq_true (by omega)];rfl
theorem ly (u:Nat):bB (Lib.decDigits u)=u∧(Lib.decDigits u).all aX=true∧(u≠0→¬ (Lib.decDigits u).head?=some 48):=by
 induction u using Nat.strongRecOn with
 | ind u ih =>
   by_cases h:u<10
   ·rw [qu u h]
    obtain ⟨h1,h2⟩:=y9 h
    generalize UInt8.ofNat (48+u)=c at *
    refine ⟨by simp [bB,h2],by simp [h1],fun h0 e=>?_⟩
    simp only [List.head?_cons,Option.some.injEq] at e
    rw [e] at h2
    have:(48:UInt8).toNat=48:=rfl
    omega
   ·rw [uh u h]
    obtain ⟨h1,h2⟩:=y9 (d:=u % 10) (by omega)
    generalize UInt8.ofNat (48+u % 10)=c at *
    obtain ⟨g1,g2,g3⟩:=ih (u / 10) (by omega)
    refine ⟨by rw [j4,g1,h2];omega,by simp [g2,h1],fun h0=>?_⟩
    obtain ⟨c,r,hc,_⟩:=jT (u / 10)
    have:=g3 (by omega)
    rw [hc] at this ⊢
    simpa using this
theorem BL (u:Nat) (h:u≤9223372036854775808):bY (Lib.decDigits u)=true:=by
 obtain ⟨g1,g2,g3⟩:=ly u
 obtain ⟨c,r,hc,_⟩:=jT u
 refine jW (by rw [hc];simp) ?_ g2 (by rw [g1];exact h)
 rintro ⟨h1,h2⟩
 by_cases h0:u=0
 ·subst h0;rw [qu 0 (by omega)] at h1;simp at h1
 ·exact g3 h0 h2
end Go.Proofs.YtejpnabbmgpmaaaGreatDoor

namespace Go.Proofs.YtejpnabbmgpmaaaGreatDoor
open Go.Ab
theorem Ck {c:UInt8} (h1:65≤((c.toNat:Nat):Int)) (h2:((c.toNat:Nat):Int)≤90):gr c=true:=by
 show (decide (65≤((c.toNat:Nat):Int)) && decide (((c.toNat:Nat):Int)≤90))=true
 simp [h1,h2]
theorem AN {c:UInt8} (h1:¬ 65≤((c.toNat:Nat):Int)):¬ gr c=true:=by
 show ¬ (decide (65≤((c.toNat:Nat):Int)) && decide (((c.toNat:Nat):Int)≤90))=true
 simp [h1]
theorem Ag {c:UInt8} (h2:¬ ((c.toNat:Nat):Int)≤90):¬ gr c=true:=by
 show ¬ (decide (65≤((c.toNat:Nat):Int)) && decide (((c.toNat:Nat):Int)≤90))=true
 simp [h2]
theorem Dn {G} (s:List UInt8) (n:Nat) (_hl:s.length≤1000000) (h1:1≤n) (hn:n≤s.length):HP Tryz.prog G 137 [.str s,i64 n] (fun r=>r=.d (qK (mT s n))):=by
 refine aj Tryz.func137 rfl (by decide +kernel) (by simp [Tryz.ntmps137]) (veil fun E=>?_)
 simp only [go_sem]
 refine ⟨⟨by omega,by omega⟩,?_⟩
 rw [Nat.sub_zero]
 have hw:(s.take n).length=n:=by rw [List.length_take];omega
 obtain ⟨w,hwd⟩:∃ w,w=s.take n:=⟨_,rfl⟩
 rw [← hwd] at hw
 have hdef:mT s n=if 20<n then du 7 else if Av w then ⟨⟨1,w,0,0⟩,n,0⟩ else if gr (w.getD 0 0) then ⟨⟨3,w,0,0⟩,n,0⟩ else ⟨⟨2,w,0,0⟩,n,0⟩:=by rw [hwd];rfl
 rw [← hwd]
 refine ah E (fun h2=>?_) (fun h2=>?_)<;>simp only [go_sem]
 ·rw [hdef,if_pos (by omega)];rfl
 rw [if_neg (by omega)] at hdef
 refine ab E (zp w) rfl rfl (by simp) ?_
 rintro _ rfl
 simp only [go_sem]
 refine aG E (fun h3=>?_) (fun h3=>?_)<;>simp only [go_sem]
 ·rw [hdef,if_pos h3];rfl
 rw [if_neg (by rw [h3];simp)] at hdef
 refine ⟨by omega,?_⟩
 refine ar E (fun h4=>?_) (fun h4=>?_)<;>simp only [go_sem]
 ·refine ⟨by omega,?_⟩
  refine ah E (fun h5=>?_) (fun h5=>?_)<;>simp only [go_sem]
  ·rw [hdef,if_pos (Ck h4 h5)];rfl
  ·rw [hdef,if_neg (Ag h5)];rfl
 ·rw [hdef,if_neg (AN h4)];rfl
theorem w6 {G} (c:UInt8):HP Tryz.prog G 139 [u8 c] (fun r=>r=.d (.bool (aX c))):=by
 unfold u8
 refine aj Tryz.func139 rfl (by decide +kernel) (by simp [Tryz.ntmps139]) (veil fun E=>?_)
 simp only [go_sem]
 repeat (first
  | (apply br E;(· simp only [go_sem]);(· intro h;(try simp only [bq] at h);simp only [↓h,go_sem];rfl);simp only [go_sem])
  | (apply aK E;(· simp only [go_sem]);(· intro h;(try simp only [bq] at h);simp only [↓h,go_sem];rfl);(· intro h;(try simp only [bq] at h);simp only [↓h,go_sem];rfl);simp only [go_sem])
  | (apply aI E;(· simp only [go_sem]);(· rfl);(· intro h h';(try simp only [bq] at h h');simp only [↓h,↓h',go_sem];rfl);simp only [go_sem])
  | (apply aw E;(· simp only [go_sem]);(· rfl);(· intro h h';(try simp only [bq] at h h');simp only [↓h,↓h',go_sem];rfl);(· intro h h';(try simp only [bq] at h h');simp only [↓h,↓h',go_sem];rfl);simp only [go_sem])
  | (apply bo E;(· decide);simp only [go_sem]))
 have hp:(decide (48≤((c.toNat:Nat):Int)) && decide (((c.toNat:Nat):Int)≤57))=aX c:=by
  unfold aX
  rw [Bool.eq_iff_iff];simp;omega
 rw [hp]
theorem DF {G} (s:List UInt8) (hl:s.length≤1000000):HP Tryz.prog G 141 [.str s] (fun r=>r=.d (qK (uf s))):=by
 refine aj Tryz.func141 rfl (by decide +kernel) (by simp [Tryz.ntmps141]) (veil fun E=>?_)
 simp only [go_sem]
 refine ab E (CS s hl) rfl rfl (by simp) ?_
 rintro _ rfl
 simp only [go_sem]
 rfl
theorem wg (s:List UInt8):qp s=.tup [.d (i64 (zK s).1),.d (i64 (zK s).2)]:=by
 unfold qp zK
 have key:∀ (b:Bool) (l:List UInt8),cn b l=.tup [.d (i64 (tG b l).1),.d (i64 (tG b l).2)]:=fun b l=>by
  unfold cn tG
  cases bN b l<;>rfl
 split<;>exact key _ _
theorem yP {s:List UInt8} {n:Nat} (h:n<s.length):gH (s.drop n)=if aX (s.getD n 0) then gH (s.drop (n+1))+1 else 0:=by
 rw [List.drop_eq_getElem_cons h,gH]
 simp [h]
theorem C1 {G} (s:List UInt8) (hl:s.length≤1000000) (h0:1≤s.length):HP Tryz.prog G 140 [.str s] (fun r=>r=.d (qK (zy s))):=by
 refine aj Tryz.func140 rfl (by decide +kernel) (by simp [Tryz.ntmps140]) (veil fun E=>?_)
 simp only [go_sem]
 have hle:=qg (s.drop 1)
 rw [List.length_drop] at hle
 refine aC E (X:={ n:Nat // 1≤n∧n≤s.length∧n+gH (s.drop n)=gH (s.drop 1)+1 }) (fun x=>[(0,.d (.str s)),(2,.bx [2] 0),(3,.d (i64 x.1))]) (fun x=>[([2],.box [.d (i64 0),.d (.str []),.d (i64 0),.d (i64 0),.d (i64 0),.d (i64 0)])]) [2] (fun x=>s.length-x.1) ⟨1,by omega,by omega,by omega⟩ id ?_ ?_
 ·simp only [go_sem]
  all_goals rfl
 rintro ⟨n,hn1,hn2,hn3⟩ E0
 refine aO E0 fun Q' hQ E'=>?_
 simp only at hn1 hn2 hn3 ⊢
 simp only [go_sem]
 refine ar E' (fun h1=>?_) (fun h1=>?_)<;>simp only [go_sem]
 ·have h1':n<s.length:=by omega
  refine ⟨⟨by omega,by omega⟩,?_⟩
  refine ab E' (w6 (s.getD n 0)) rfl rfl (by simp) ?_
  rintro _ rfl
  simp only [go_sem]
  have hd:=yP h1'
  refine aG E' (fun h2=>?_) (fun h2=>?_)<;>simp only [go_sem]
  ·rw [ai ⟨by omega,by omega⟩,hQ]
   simp only [go_sem]
   rw [h2,if_pos rfl] at hd
   refine ⟨⟨n+1,by omega,by omega,by omega⟩,by show s.length-(n+1)<_;omega,id,?_⟩
   simp only [go_sem]
   rfl
  ·rw [h2] at hd
   have hn4:n=gH (s.drop 1)+1:=by simp at hd;omega
   rw [hQ]
   simp only [go_sem]
   refine ⟨⟨by omega,by omega⟩,?_⟩
   rw [Nat.sub_zero]
   refine ab E (wA (s.take n)) rfl rfl (by simp) ?_
   rintro _ rfl
   rw [wg]
   simp only [go_sem]
   rw [hn4]
   rfl
 ·have hn4:n=gH (s.drop 1)+1:=by
   have:n=s.length:=by omega
   rw [this,List.drop_length] at hn3
   simp [gH] at hn3
   omega
  rw [hQ]
  simp only [go_sem]
  refine ⟨⟨by omega,by omega⟩,?_⟩
  rw [Nat.sub_zero]
  refine ab E (wA (s.take n)) rfl rfl (by simp) ?_
  rintro _ rfl
  rw [wg]
  simp only [go_sem]
  rw [hn4]
  rfl
theorem ET {G} (s:List UInt8) (hl:s.length≤1000000) (h0:1≤s.length):HP Tryz.prog G 138 [.str s] (fun r=>r=.d (qK (tE s))):=by
 have hwl:=ju (s.drop 1)
 rw [List.length_drop] at hwl
 refine aj Tryz.func138 rfl (by decide +kernel) (by simp [Tryz.ntmps138]) (veil fun E=>?_)
 simp only [go_sem]
 refine ⟨⟨by omega,by omega⟩,?_⟩
 rw [List.take_of_length_le (l:=s.drop 1) (by rw [List.length_drop];omega)]
 refine ab E (qm (s.drop 1) (by rw [List.length_drop];omega)) rfl rfl (by simp) ?_
 rintro _ rfl
 simp only [go_sem]
 have hdef:tE s=if bm (s.drop 1)=0∨gr (s.getD 1 0) then du 5 else if 20<bm (s.drop 1) then du 7 else ⟨⟨6,(s.drop 1).take (bm (s.drop 1)),0,0⟩,bm (s.drop 1)+1,0⟩:=rfl
 generalize bm (s.drop 1)=n at hdef hwl
 refine ar E (fun h1=>?_) (fun h1=>?_)<;>simp only [go_sem]
 ·rw [hdef,if_pos (.inl (by omega))];rfl
 refine ⟨by omega,?_⟩
 have more:∀ h:¬ gr (s.getD 1 0)=true,tE s=if 20<n then du 7 else ⟨⟨6,(s.drop 1).take n,0,0⟩,n+1,0⟩:=fun h=>by rw [hdef,if_neg (fun e=>e.elim (by omega) h)]
 refine ar E (fun h2=>?_) (fun h2=>?_)<;>simp only [go_sem]
 ·refine ⟨by omega,?_⟩
  refine ah E (fun h3=>?_) (fun h3=>?_)<;>simp only [go_sem]
  ·rw [hdef,if_pos (.inr (Ck h2 h3))];rfl
  have hm:=more (Ag h3)
  refine ah E (fun h4=>?_) (fun h4=>?_)<;>simp only [go_sem]
  ·rw [hm,if_pos (by omega)];rfl
  rw [ai ⟨by omega,by omega⟩]
  refine ⟨⟨by omega,by omega⟩,?_⟩
  rw [hm,if_neg (by omega),show ((n:Int)+1).toNat-1=n by omega]
  rfl
 ·have hm:=more (AN h2)
  refine ah E (fun h4=>?_) (fun h4=>?_)<;>simp only [go_sem]
  ·rw [hm,if_pos (by omega)];rfl
  rw [ai ⟨by omega,by omega⟩]
  refine ⟨⟨by omega,by omega⟩,?_⟩
  rw [hm,if_neg (by omega),show ((n:Int)+1).toNat-1=n by omega]
  rfl
theorem Du {G} (s:List UInt8) (hl:s.length≤1000000) (h0:1≤s.length):HP Tryz.prog G 142 [.str s] (fun r=>r=.d (qK (n9 s))):=by
 refine aj Tryz.func142 rfl (by decide +kernel) (by simp [Tryz.ntmps142]) (veil fun E=>?_)
 simp only [go_sem]
 refine ab E (vU s [45,62]) rfl rfl (by simp) ?_
 rintro _ rfl
 simp only [go_sem]
 have hdef:n9 s=if ba s [45,62] || ba s [61,61] then ⟨⟨7,s.take 2,0,0⟩,2,0⟩ else if Lib.indexByte Ah (s.getD 0 0)<0 then du 5 else ⟨⟨7,s.take 1,0,0⟩,1,0⟩:=rfl
 refine bz E (fun h1=>?_) (fun h1=>?_)<;>simp only [go_sem]
 ·have:=gf h1
  simp only [List.length_cons,List.length_nil] at this
  refine ⟨by omega,?_⟩
  rw [hdef,h1];rfl
 refine ab E (vU s [61,61]) rfl rfl (by simp) ?_
 rintro _ rfl
 simp only [go_sem]
 refine aG E (fun h2=>?_) (fun h2=>?_)<;>simp only [go_sem]
 ·have:=gf h2
  simp only [List.length_cons,List.length_nil] at this
  refine ⟨by omega,?_⟩
  rw [hdef,h2,Bool.or_true];rfl
 rw [h1,h2,Bool.or_false,if_neg (by simp)] at hdef
 refine ⟨by omega,?_⟩
 refine ab E (jM Ah (s.getD 0 0)) rfl rfl (by simp) ?_
 rintro _ rfl
 simp only [go_sem]
 refine ah E (fun h3=>?_) (fun h3=>?_)<;>simp only [go_sem]
 ·rw [hdef,if_pos h3];rfl
 refine ⟨by omega,?_⟩
 rw [hdef,if_neg h3];rfl
end Go.Proofs.YtejpnabbmgpmaaaGreatDoor

namespace Go.Proofs.YtejpnabbmgpmaaaGreatDoor
open Go.Ab
theorem gG (f:Fnd):qK f=.agg [i64 f.t.k,.str f.t.s,i64 f.t.n,i64 f.t.pos,i64 f.n,i64 f.e]:=rfl
theorem Db {G} (s:List UInt8) (hl:s.length≤1000000) (h0:1≤s.length):HP Tryz.prog G 112 [.str s] (fun r=>r=.d (qK (bP s))):=by
 have hwl:=ju s
 refine aj Tryz.func112 rfl (by decide +kernel) (by simp [Tryz.ntmps112]) (veil fun E=>?_)
 simp only [go_sem]
 refine ab E (qm s (by omega)) rfl rfl (by simp) ?_
 rintro _ rfl
 simp only [go_sem]
 have hdef:bP s=if 0<bm s then mT s (bm s) else if s.getD 0 0=39 then tE s else if aX (s.getD 0 0) || decide (s.getD 0 0=126) then zy s else if s.getD 0 0=34 then uf s else n9 s:=rfl
 generalize bm s=n at hdef hwl
 generalize hc:s.getD 0 0=c at hdef
 refine ah E (fun h1=>?_) (fun h1=>?_)<;>simp only [go_sem]
 ·refine ab E (Dn s n hl (by omega) hwl) rfl rfl (by simp) ?_
  rintro _ rfl
  rw [gG (mT s n)]
  simp only [go_sem]
  rw [hdef,if_pos (by omega)];rfl
 rw [if_neg (by omega)] at hdef
 refine ⟨by omega,?_⟩
 rw [hc]
 refine ah E (fun h2=>?_) (fun h2=>?_)<;>simp only [go_sem]
 ·refine ab E (ET s hl h0) rfl rfl (by simp) ?_
  rintro _ rfl
  rw [gG (tE s)]
  simp only [go_sem]
  rw [hdef,if_pos (cV 39 h2)];rfl
 rw [if_neg (bc 39 h2)] at hdef
 refine ab E (w6 c) rfl rfl (by simp) ?_
 rintro _ rfl
 simp only [go_sem]
 repeat (first
  | (apply br E;(· simp only [go_sem]);(· intro h;(try simp only [bq] at h);simp only [↓h,go_sem];rfl);simp only [go_sem])
  | (apply aK E;(· simp only [go_sem]);(· intro h;(try simp only [bq] at h);simp only [↓h,go_sem];rfl);(· intro h;(try simp only [bq] at h);simp only [↓h,go_sem];rfl);simp only [go_sem])
  | (apply aI E;(· simp only [go_sem]);(· rfl);(· intro h h';(try simp only [bq] at h h');simp only [↓h,↓h',go_sem];rfl);simp only [go_sem])
  | (apply aw E;(· simp only [go_sem]);(· rfl);(· intro h h';(try simp only [bq] at h h');simp only [↓h,↓h',go_sem];rfl);(· intro h h';(try simp only [bq] at h h');simp only [↓h,↓h',go_sem];rfl);simp only [go_sem])
  | (apply bo E;(· decide);simp only [go_sem]))
 refine aG E (fun h3=>?_) (fun h3=>?_)<;>simp only [go_sem]
 ·refine ab E (C1 s hl h0) rfl rfl (by simp) ?_
  rintro _ rfl
  rw [gG (zy s)]
  simp only [go_sem]
  have h4:(aX c || decide (c=126))=true:=by
   simp only [Bool.or_eq_true,decide_eq_true_eq] at h3 ⊢
   rcases h3 with h3 | h3
   ·exact .inl h3
   ·exact .inr (cV 126 h3)
  rw [hdef,if_pos h4];rfl
 have h4:¬ (aX c || decide (c=126))=true:=by
  simp only [Bool.or_eq_false_iff,decide_eq_false_iff_not] at h3
  simp only [Bool.or_eq_true,decide_eq_true_eq,not_or]
  exact ⟨by rw [h3.1];simp,bc 126 h3.2⟩
 rw [if_neg h4] at hdef
 refine ah E (fun h5=>?_) (fun h5=>?_)<;>simp only [go_sem]
 ·refine ab E (DF s hl) rfl rfl (by simp) ?_
  rintro _ rfl
  rw [gG (uf s)]
  simp only [go_sem]
  rw [hdef,if_pos (cV 34 h5)];rfl
 rw [if_neg (bc 34 h5)] at hdef
 refine ab E (Du s hl h0) rfl rfl (by simp) ?_
 rintro _ rfl
 rw [gG (n9 s)]
 simp only [go_sem]
 rw [hdef];rfl
theorem vK:∀ l:List UInt8,Lib.indexByte l 10=match cN l with
  | none=>-1
  | some k=>(k:Int)
 | []=>rfl
 | c::r=>by
   unfold Lib.indexByte cN
   by_cases h:c=10
   ·simp [h]
   ·rw [if_neg (by simpa using h),if_neg h,vK r]
    cases cN r with
    | none=>rfl
    | some k =>
      simp only [Option.map_some]
      rw [if_neg (by simp)]
      show (k:Int)+1=((k+1:Nat):Int)
      omega
theorem qX:∀ {l:List UInt8} {k:Nat},cN l=some k→k<l.length
 | [],_,h=>by cases h
 | c::r,k,h=>by
   unfold cN at h
   split at h
   ·cases h;simp
   ·obtain ⟨j,hj,rfl⟩:=Option.map_eq_some_iff.1 h
    have:=qX hj
    simp only [List.length_cons];omega
theorem n8 {c:UInt8} {r:List UInt8} {k:Nat} (hc:¬ c=10) (h:cN (c::r)=some k):1≤k:=by
 unfold cN at h
 rw [if_neg hc] at h
 obtain ⟨j,_,rfl⟩:=Option.map_eq_some_iff.1 h
 omega
theorem sM (c:UInt8):0≤Lib.indexByte uB c↔c=32∨c=9∨c=10:=by
 unfold uB
 by_cases h1:c=32
 ·subst h1;decide
 by_cases h2:c=9
 ·subst h2;decide
 by_cases h3:c=10
 ·subst h3;decide
 simp [Lib.indexByte,Ne.symm h1,Ne.symm h2,Ne.symm h3,h1,h2,h3]
structure PaI (s:List UInt8) (n m:Nat):Prop where
 hn:n≤s.length
 hm:(s.drop n).length<m
 he:n+dD m (s.drop n)=aQ s
theorem PaI.init (s:List UInt8):PaI s 0 s.length.succ:=⟨Nat.zero_le _,by simp,by simp [aQ]⟩
theorem PaI.fin {s:List UInt8} {n m:Nat} (h:PaI s n m) (hn:s.length≤n):aQ s=n:=by
 rw [← h.he,List.drop_eq_nil_of_le hn]
 cases m<;>rfl
theorem PaI.cases {s:List UInt8} {n m:Nat} (h:PaI s n m) (hi:n<s.length):∃ m',m=m'+1∧s.drop n=s.getD n 0::s.drop (n+1):=by
 obtain ⟨m',rfl⟩:∃ m',m=m'+1:=⟨m-1,by have:=h.hm;omega⟩
 exact ⟨m',rfl,by rw [List.drop_eq_getElem_cons hi];simp [hi]⟩
theorem PaI.blank {s:List UInt8} {n m:Nat} (h:PaI s n m) (hi:n<s.length) (hb:s.getD n 0=32∨s.getD n 0=9∨s.getD n 0=10):PaI s (n+1) (m-1):=by
 obtain ⟨m',rfl,hd⟩:=h.cases hi
 have hm:=h.hm
 rw [List.length_drop] at hm
 refine ⟨by omega,by rw [List.length_drop];omega,?_⟩
 rw [← h.he,hd,dD,if_pos hb,Nat.add_sub_cancel]
 omega
theorem PaI.stop {s:List UInt8} {n m:Nat} (h:PaI s n m) (hi:n<s.length) (hb:¬ (s.getD n 0=32∨s.getD n 0=9∨s.getD n 0=10)) (hr:¬ s.getD n 0=35):aQ s=n:=by
 obtain ⟨m',rfl,hd⟩:=h.cases hi
 rw [← h.he,hd,dD,if_neg hb,if_neg hr]
 omega
theorem PaI.none {s:List UInt8} {n m:Nat} (h:PaI s n m) (hi:n<s.length) (hb:¬ (s.getD n 0=32∨s.getD n 0=9∨s.getD n 0=10)) (hr:s.getD n 0=35) (hf:cN (s.drop n)=none):aQ s=s.length:=by
 obtain ⟨m',rfl,hd⟩:=h.cases hi
 rw [hd] at hf
 rw [← h.he,hd,dD,if_neg hb,if_pos hr,hf,← hd]
 simp only [List.length_drop]
 omega
theorem PaI.some {s:List UInt8} {n m k:Nat} (h:PaI s n m) (hi:n<s.length) (hb:¬ (s.getD n 0=32∨s.getD n 0=9∨s.getD n 0=10)) (hr:s.getD n 0=35) (hf:cN (s.drop n)=some k):PaI s (n+k) (m-1)∧1≤k:=by
 obtain ⟨m',rfl,hd⟩:=h.cases hi
 have hk:=qX hf
 have h1:1≤k:=by
  rw [hd] at hf
  exact n8 (by rw [hr];decide) hf
 have hm:=h.hm
 rw [List.length_drop] at hm hk
 refine ⟨⟨by omega,by rw [List.length_drop];omega,?_⟩,h1⟩
 rw [hd] at hf
 rw [← h.he,hd,dD,if_neg hb,if_pos hr,hf,← hd]
 simp only [List.drop_drop,Nat.add_sub_cancel]
 omega
theorem wF {G} (s:List UInt8) (hl:s.length≤1000000):HP Tryz.prog G 111 [.str s] (fun r=>r=.d (i64 (aQ s))):=by
 refine aj Tryz.func111 rfl (by decide +kernel) (by simp [Tryz.ntmps111]) (veil fun E=>?_)
 simp only [go_sem]
 refine aC E (X:={ x:Nat × Nat // PaI s x.1 x.2 }) (fun x=>[(0,.d (.str s)),(3,.d (i64 x.1.1))]) (fun _=>[]) [] (fun x=>s.length-x.1.1) ⟨(0,_),PaI.init s⟩ id ?_ ?_
 ·simp only [go_sem]
  all_goals rfl
 rintro ⟨⟨n,m⟩,hI⟩ E0
 refine aO E0 fun Q' hQ E'=>?_
 simp only at hI ⊢
 have hn:=hI.hn
 simp only [go_sem]
 refine ah E' (fun h1=>?_) (fun h1=>?_)<;>simp only [go_sem]
 rotate_left
 ·rw [hQ]
  simp only [go_sem]
  rw [hI.fin (by omega)]
 have h1':n<s.length:=by omega
 refine ⟨⟨by omega,by omega⟩,?_⟩
 refine ab E' (jM uB (s.getD n 0)) rfl rfl (by simp) ?_
 rintro _ rfl
 simp only [go_sem]
 refine ah E' (fun h2=>?_) (fun h2=>?_)<;>simp only [go_sem]
 ·have hI2:=hI.blank h1' ((sM _).1 h2)
  rw [ai ⟨by omega,by omega⟩,hQ]
  simp only [go_sem]
  refine ⟨⟨(n+1,m-1),hI2⟩,by show s.length-(n+1)<_;omega,id,?_⟩
  simp only [go_sem]
  rfl
 have h2n:¬ (s.getD n 0=32∨s.getD n 0=9∨s.getD n 0=10):=fun h=>h2 ((sM _).2 h)
 refine ⟨⟨by omega,by omega⟩,?_⟩
 refine ah E' (fun h3=>?_) (fun h3=>?_)<;>simp only [go_sem]
 rotate_left
 ·rw [hQ]
  simp only [go_sem]
  rw [hI.stop h1' h2n (bc 35 h3)]
 have h3y:=cV 35 h3
 refine ⟨⟨by omega,by omega⟩,?_⟩
 rw [List.take_of_length_le (l:=s.drop n) (by rw [List.length_drop];omega)]
 refine ab E' (jM (s.drop n) 10) rfl rfl (by simp) ?_
 rintro _ rfl
 rw [vK]
 cases hf:cN (s.drop n) with
 | none =>
   simp only [go_sem]
   rw [hQ]
   simp only [go_sem]
   rw [hI.none h1' h2n h3y hf]
 | some k =>
   have ⟨hI2,hk⟩:=hI.some h1' h2n h3y hf
   have hn2:=hI2.hn
   simp only [go_sem]
   refine ah E' (fun h4=>?_) (fun h4=>?_)<;>simp only [go_sem]
   ·omega
   rw [ai ⟨by omega,by omega⟩,hQ]
   simp only [go_sem]
   refine ⟨⟨(n+k,m-1),hI2⟩,by show s.length-(n+k)<_;omega,id,?_⟩
   simp only [go_sem]
   rfl
end Go.Proofs.YtejpnabbmgpmaaaGreatDoor

namespace Go.Proofs.YtejpnabbmgpmaaaGreatDoor
open Go.Ab
theorem zr {G} (s:List UInt8):HP Tryz.prog G 68 [.str s] (fun r=>r=.d (.clo 110 [.ptr (.str s)])):=by
 have h:HCall Tryz.prog G 68 [.d (.str s)] [] [] (fun r hp'=>r=.clo 110 [.bx [1] 0]∧hp'=[([1],.box [.d (.str s)])]):=by
  refine ao Tryz.func68 rfl (by decide +kernel) (by simp [Tryz.ntmps68]) (veil fun E=>?_)
  simp only [go_sem]
  refine ⟨_,_,[1],id,⟨rfl,rfl⟩,?_⟩
  simp only [go_sem]
 have h2:=HCall.fB (Q':=fun r hp'=>r=.d (.clo 110 [.ptr (.str s)])∧hp'=[]) h [1] (.str s) (by
  rintro r hp' ⟨rfl,rfl⟩
  refine ⟨rfl,rfl,?_,?_⟩
  ·simp only [go_sem]
  ·simp only [go_sem])
 exact h2.mono fun r hp' ⟨h1,h3⟩=>⟨h1,by rw [h1];rfl,h3⟩
theorem lS:∀ (m:Nat) (s:List UInt8),dD m s≤s.length
 | 0,_=>Nat.zero_le _
 | _+1,[]=>Nat.le_refl _
 | m+1,c::r=>by
   unfold dD
   split
   ·have:=lS m r
    simp only [List.length_cons];omega
   split
   ·split
    ·exact Nat.le_refl _
    ·rename_i k hk
     have:=qX hk
     have h2:=lS m ((c::r).drop k)
     rw [List.length_drop] at h2
     omega
   ·exact Nat.zero_le _
theorem vH (s:List UInt8):aQ s≤s.length:=lS _ _
structure TI (s:List UInt8) (j p:Nat):Prop where
 hj:j≤(aD s).length
 hp:p≤s.length
 he:∃ m q,q≤s.length∧(s.drop q).length<m∧p=q+aQ (s.drop q)∧(aD s).drop j=dA m (s.drop q) q
theorem TI.init (s:List UInt8):TI s 0 (aQ s):=⟨Nat.zero_le _,vH s,s.length.succ,0,Nat.zero_le _,by simp,by simp,by simp [aD]⟩
theorem TI.next {s:List UInt8} {j p:Nat} (h:TI s j p):(s.length≤p∧(aD s).drop j=[]) ∨
  (p<s.length∧(aD s)[j]?=some (p,bP (s.drop p))∧(((bP (s.drop p)).e≠0∧(aD s).length=j+1) ∨
   ((bP (s.drop p)).e=0∧p+(bP (s.drop p)).n≤s.length∧1≤(bP (s.drop p)).n∧TI s (j+1) (p+(bP (s.drop p)).n+aQ (s.drop (p+(bP (s.drop p)).n)))))):=by
 obtain ⟨m,q,hq,hm,rfl,he⟩:=h.he
 have hpl:=h.hp
 cases m with
 | zero=>omega
 | succ m =>
   have hdd:(s.drop q).drop (aQ (s.drop q))=s.drop (q+aQ (s.drop q)):=by rw [List.drop_drop]
   unfold dA at he
   rw [hdd] at he
   obtain ⟨p,hp⟩:∃ p,p=q+aQ (s.drop q):=⟨_,rfl⟩
   rw [← hp] at he hpl ⊢
   by_cases h0:s.drop p=[]
   ·rw [if_pos h0] at he
    refine .inl ⟨?_,he⟩
    exact List.drop_eq_nil_iff.1 h0
   rw [if_neg h0] at he
   have hlt:p<s.length:=by
    rcases Nat.lt_or_ge p s.length with h1 | h1
    ·exact h1
    ·exact absurd (List.drop_eq_nil_of_le h1) h0
   refine .inr ⟨hlt,?_⟩
   have hget:∀ x r,(aD s).drop j=x::r→(aD s)[j]?=some x:=fun x r h=>by
    have:((aD s).drop j)[0]?=some x:=by rw [h];rfl
    simpa using this
   by_cases h1:(bP (s.drop p)).e=0
   ·rw [if_neg (by simpa using h1)] at he
    have hn:=Ce h0 h1
    rw [List.length_drop] at hn hm
    refine ⟨hget _ _ he,.inr ⟨h1,by omega,hn.1,?_⟩⟩
    have hpq:=vH (s.drop (p+(bP (s.drop p)).n))
    rw [List.length_drop] at hpq
    have hj1:=(List.getElem?_eq_some_iff.1 (hget _ _ he)).1
    refine ⟨by omega,by omega,m,p+(bP (s.drop p)).n,by omega,by rw [List.length_drop];omega,rfl,?_⟩
    have h2:(aD s).drop (j+1)=((aD s).drop j).drop 1:=by rw [List.drop_drop]
    rw [h2,he,List.drop_succ_cons,List.drop_zero,List.drop_drop]
   ·rw [if_pos h1] at he
    refine ⟨hget _ _ he,.inl ⟨h1,?_⟩⟩
    have h2:=congrArg List.length he
    rw [List.length_drop] at h2
    simp at h2
    omega
def Cl (s:List UInt8) (n:Nat):List D:=[i64 ((aD s).getD n (0,du 0)).1,qK ((aD s).getD n (0,du 0)).2]
set_option maxHeartbeats 1000000 in
theorem wN {G} (s:List UInt8) (hl:s.length≤1000000):ItC Tryz.prog G 110 [.ptr (.str s)] (aD s).length (Cl s):=by
 refine EE Tryz.func110 rfl (by decide +kernel) (by simp [Tryz.ntmps110]) rfl fun z hz=>?_
 refine bf (az fun E=>?_)
 simp only [go_sem]
 refine ab E (wF s hl) rfl rfl (by simp) ?_
 rintro _ rfl
 simp only [go_sem]
 refine lB (Gc (X:={ x:Nat × Nat // TI s x.1 x.2 }) (fun x=>mk [(0,.d (.yl z.l)),(1,.d (.ptr (.str s))),(3,.d (i64 x.1.2))] [] []) (fun x=>II z x.1.1) (fun x=>s.length-x.1.2) ⟨(0,aQ s),.init s⟩ ⟨id,LeL.le ?_⟩ (fun _ _ h=>h) ?_)
 ·simp only [go_sem]
  all_goals rfl
 rintro ⟨⟨j,p⟩,hT⟩
 have hpl:=hT.hp
 simp only at hT hpl ⊢
 generalize hΦ:lpY _ _ _ _ _ _ _ _=Φ'
 refine bf (az fun E=>?_)
 simp only [go_sem]
 refine ah E (fun h1=>?_) (fun h1=>?_)<;>simp only [go_sem]
 ·obtain ⟨hlt,hget,hcase⟩:=hT.next.resolve_left (fun h=>by omega)
  have hj:j<(aD s).length:=(List.getElem?_eq_some_iff.1 hget).1
  have hgd:(aD s).getD j (0,du 0)=(p,bP (s.drop p)):=by rw [List.getD_eq_getElem?_getD,hget];rfl
  generalize hF:bP (s.drop p)=F at hget hcase hgd
  refine bf (lB (bf (az fun E=>?_)))
  simp only [go_sem]
  refine ⟨⟨by omega,by omega⟩,?_⟩
  rw [List.take_of_length_le (l:=s.drop p) (by rw [List.length_drop];omega)]
  refine ab E (Db (s.drop p) (by rw [List.length_drop];omega) (by rw [List.length_drop];omega)) rfl rfl (by simp) ?_
  rintro _ rfl
  rw [hF,gG F]
  simp only [go_sem]
  refine bf (bf (rL (DT rfl ?_)))
  simp only [go_sem]
  refine DT rfl ?_
  simp only [go_sem]
  refine DT rfl ?_
  simp only [go_sem]
  refine CY hz hj (by simp) rfl (by simp only [go_sem];rw [show Cl s j=[i64 p,qK F] by unfold Cl;rw [hgd]];rfl) ?_ ?_
  ·refine A3 fun E=>?_
   simp only [go_sem]
   refine az fun E=>?_
   simp only [go_sem]
   refine ah E (fun h2=>?_) (fun h2=>?_)<;>simp only [go_sem]
   ·rcases hcase with ⟨_,h3⟩ | ⟨h3,_⟩
    ·rw [← h3]
     subst hΦ
     exact l8 (A1 hz (.inr rfl))
    ·exact absurd h3 h2
   ·rcases hcase with ⟨h3,_⟩ | ⟨h3,h4,h5,h6⟩
    ·exact absurd h3 h2
    refine az fun E=>?_
    simp only [go_sem]
    rw [ai ⟨by omega,by omega⟩]
    refine EZ (az fun E=>?_)
    simp only [go_sem]
    have hpo:=h6.hp
    refine ⟨⟨by omega,by omega⟩,?_⟩
    rw [show ((p:Int)+(F.n:Nat)).toNat=p+F.n by omega,List.take_of_length_le (l:=s.drop (p+F.n)) (by rw [List.length_drop];omega)]
    refine ab E (wF (s.drop (p+F.n)) (by rw [List.length_drop];omega)) rfl rfl (by simp) ?_
    rintro _ rfl
    simp only [go_sem]
    rw [ai ⟨by omega,by omega⟩]
    subst hΦ
    refine rE (show { x:Nat × Nat // TI s x.1 x.2 } from ⟨(j+1,p+F.n+aQ (s.drop (p+F.n))),h6⟩) ?_ id (LeL.le ?_) (fun _ _ h=>h)
    ·show s.length-(p+F.n+aQ (s.drop (p+F.n)))<s.length-p
     omega
    ·simp only [go_sem]
     rfl
  ·refine A3 fun E=>?_
   simp only [go_sem]
   refine az fun E=>?_
   simp only [go_sem]
   subst hΦ
   exact l8 (FE hz (.inr rfl))
 ·subst hΦ
  refine tS ?_
  simp only [go_sem]
  refine H3 ?_
  have hj:=hT.hj
  rcases hT.next with ⟨_,h2⟩ | ⟨h2,_⟩
  ·have h3:=List.drop_eq_nil_iff.1 h2
   have:j=(aD s).length:=by omega
   subst this
   exact A1 hz (.inl rfl)
  ·omega
end Go.Proofs.YtejpnabbmgpmaaaGreatDoor

namespace Go.Proofs.YtejpnabbmgpmaaaGreatDoor
open Go.Ab
theorem qJ:∀ (m:Nat) (s:List UInt8) (at' i:Nat),i+1<(dA m s at').length→((dA m s at').getD i (0,du 0)).2.e=0
 | 0,_,_,_,h=>by simp [dA] at h
 | m+1,s,at',i,h=>by
   unfold dA at h ⊢
   split at h
   ·simp at h
   rename_i h0
   rw [if_neg h0]
   split at h
   ·simp at h
   rename_i h1
   rw [if_neg h1]
   cases i with
   | zero=>simpa using h1
   | succ i =>
     simp only [List.length_cons] at h
     rw [List.getD_cons_succ]
     exact qJ m _ _ i (by omega)
theorem o4:∀ {l:List (Nat × Fnd)},fh l=none→∀ q∈l,q.2.e=0
 | [],_,q,h=>by cases h
 | a::r,hb,q,h=>by
   unfold fh at hb
   split at hb
   ·cases hb
   rename_i h1
   rcases List.mem_cons.1 h with rfl | h
   ·simpa using h1
   ·exact o4 hb q h
theorem pj:∀ {l:List (Nat × Fnd)} {i:Nat} {e:Int},(∀ k,k+1<l.length→(l.getD k (0,du 0)).2.e=0)→fh l=some (i,e)→0<l.length∧(l.getD (l.length-1) (0,du 0)).1=i∧(l.getD (l.length-1) (0,du 0)).2.e=e∧e≠0
 | [],_,_,_,h=>by cases h
 | [a],i,e,_,h=>by
   unfold fh at h
   split at h
   ·rename_i h1;cases h;exact ⟨by simp,rfl,rfl,h1⟩
   ·cases h
 | a::b::r,i,e,hk,h=>by
   have ha:a.2.e=0:=hk 0 (by simp)
   unfold fh at h
   rw [if_neg (by simpa using ha)] at h
   obtain ⟨_,h2,h3,h4⟩:=pj (l:=b::r) (fun k hk'=>by
    have:=hk (k+1) (by simp only [List.length_cons] at hk' ⊢;omega)
    simpa using this) h
   refine ⟨by simp,?_,?_,h4⟩
   ·simpa using h2
   ·simpa using h3
def HR:St:=mk [] [([0],.map [])] []
theorem EB {P:Program} {cf:Cf} {Φ:Exit→Act→World→Prop} {I:Base→List Deferred→Prop} {k:List It}:ARY P cf Φ I k HR:=by
 intro B hB ds β a w hds hI hs
 obtain ⟨⟨_,_,_,h⟩,_⟩:=hs.objs [0] _ rfl
 cases h
def sh (s:List UInt8) (n:Nat):St:=mk [(0,.d (.str s)),(2,.bx [2] 0),(3,.bx [3] 0),(4,.bx [4] 0),(5,.bx [5] 0)] [([2],.box [.d .nils]),([3],.box [.d (i64 0)]),([4],.box [.d (i64 0)]),([5],.box [.vw [99] 0 n]),([99],.arr (some 4) (((aD s).take n).map fun q=>gi (mJ q)))] [2,3,4,5,99]
theorem sf (s:List UInt8) {n:Nat} (hn:n<(aD s).length) {q:Nat × Fnd} (hq:q=(aD s).getD n (0,du 0)) :
  List.take n (List.map (fun q=>gi (mJ q)) (List.take n (aD s)))++[.agg [i64 q.2.t.k,.str q.2.t.s,i64 q.2.t.n,.int .i64 (q.1:Nat)]]=List.map (fun q=>gi (mJ q)) (List.take (n+1) (aD s)):=by
 have hq2:q=(aD s)[n]:=by rw [hq];simp [hn]
 rw [List.take_of_length_le (by simp;omega),List.take_succ_eq_append_getElem hn,List.map_append,← hq2]
 rfl
set_option maxHeartbeats 1000000 in
theorem Gl {G} (s:List UInt8) (hl:s.length≤1000000) (hb:fh (aD s)=none):HP Tryz.prog G 32 [.str s] (fun r=>r=.tup [.d (.sl (some 4) ((cO s).1.map gi)),.d (i64 (cO s).2.1),.d (i64 (cO s).2.2)]):=by
 have hok:=o4 hb
 have hfew:(aD s).length≤s.length:=jU s.length.succ s 0
 have hlex:cO s=((aD s).map mJ,s.length,0):=by unfold cO;rw [hb]
 refine qf Tryz.func32 rfl (by decide +kernel) (by simp [Tryz.ntmps32]) fun B0 hB0=>?_
 refine bf (az fun E=>?_)
 simp only [go_sem]
 refine bf (az fun E=>?_)
 simp only [go_sem]
 refine bf (bf (az fun E=>?_))
 simp only [go_sem]
 refine ab E (zr s) rfl rfl (by simp) ?_
 rintro _ rfl
 simp only [go_sem]
 refine xg [5] 0 99 (some 4) [.d .nils] rfl rfl (by rw [aa];decide) ?_
 simp only [go_sem]
 refine lB (wL rfl (wN s hl) rfl (X:=Unit) (fun n _=>sh s n) (by simp) (fun n hn=>rfl) ⟨(),id,LeL.le ?_⟩ ?_ ?_)
 ·simp only [go_sem]
  all_goals rfl
 ·rintro n ⟨⟩ hn lb
  unfold sh Cl
  obtain ⟨q,hq⟩:∃ q,q=(aD s).getD n (0,du 0):=⟨_,rfl⟩
  have hqm:q∈aD s:=by rw [hq];simp [hn]
  have hqe:=hok q hqm
  rw [← hq,gG]
  refine veil fun E=>?_
  simp only [go_sem]
  refine Hr fun E=>?_
  simp only [go_sem]
  refine ah E (fun h1=>absurd hqe h1) (fun h1=>?_)<;>simp only [go_sem]
  rw [sf s hn hq]
  refine ⟨by omega,?_⟩
  refine Fu ?_ () (tau [([99],[25])]) rfl ?_
  ·simp only [go_sem]
  ·simp only [go_sem]
 ·rintro ⟨⟩
  refine EZ ?_
  unfold sh
  rw [List.take_length]
  refine az fun E=>?_
  simp only [go_sem]
  refine gz (.inl rfl) hB0 ?_
  simp only [go_sem]
  refine ⟨[([99],some 4,(aD s).map fun q=>gi (mJ q))],?_⟩
  simp only [go_sem]
  rw [hlex,List.map_map]
  rfl
set_option maxHeartbeats 1000000 in
theorem Dl {G} (s:List UInt8) (hl:s.length≤1000000) {i:Nat} {e:Int} (hb:fh (aD s)=some (i,e)):HP Tryz.prog G 32 [.str s] (fun r=>r=.tup [.d .nils,.d (i64 i),.d (i64 e)]):=by
 obtain ⟨h0,hi,he,hne⟩:=pj (qJ _ _ _) hb
 have hok:∀ n,n+1<(aD s).length→((aD s).getD n (0,du 0)).2.e=0:=qJ _ _ _
 have hfew:(aD s).length≤s.length:=jU s.length.succ s 0
 change 0<(aD s).length at h0
 change ((aD s).getD ((aD s).length-1) (0,du 0)).1=i at hi
 change ((aD s).getD ((aD s).length-1) (0,du 0)).2.e=e at he
 refine qf Tryz.func32 rfl (by decide +kernel) (by simp [Tryz.ntmps32]) fun B0 hB0=>?_
 refine bf (az fun E=>?_)
 simp only [go_sem]
 refine bf (az fun E=>?_)
 simp only [go_sem]
 refine bf (bf (az fun E=>?_))
 simp only [go_sem]
 refine ab E (zr s) rfl rfl (by simp) ?_
 rintro _ rfl
 simp only [go_sem]
 refine xg [5] 0 99 (some 4) [.d .nils] rfl rfl (by rw [aa];decide) ?_
 simp only [go_sem]
 refine lB (wL rfl (wN s hl) rfl (X:=Unit) (fun n _=>if n<(aD s).length then sh s n else HR) (by simp) (fun n hn=>rfl) ⟨(),id,?_⟩ ?_ ?_)
 ·rw [if_pos h0]
  refine LeL.le ?_
  simp only [go_sem]
  all_goals rfl
 ·rintro n ⟨⟩ hn lb
  simp only [if_pos hn]
  have hlast:n+1<(aD s).length∨n=(aD s).length-1:=by omega
  obtain ⟨q,hq⟩:∃ q,q=(aD s).getD n (0,du 0):=⟨_,rfl⟩
  have hcase:(q.2.e=0∧n+1<(aD s).length)∨(q.1=i∧q.2.e=e):=by
   rcases hlast with h | h
   ·exact .inl ⟨by rw [hq];exact hok n h,h⟩
   ·refine .inr ⟨?_,?_⟩
    ·rw [hq,h];exact hi
    ·rw [hq,h];exact he
  unfold Cl
  rw [← hq,gG]
  unfold sh
  refine veil fun E=>?_
  simp only [go_sem]
  refine Hr fun E=>?_
  simp only [go_sem]
  refine ah E (fun h1=>?_) (fun h1=>?_)<;>simp only [go_sem]
  ·obtain ⟨hq1,hq2⟩:=hcase.resolve_left (fun h=>h1 h.1)
   refine ak mixed E fun X=>?_
   simp only [go_sem]
   refine ⟨by decide +kernel,?_⟩
   refine FW ?_ (gz (.inl rfl) hB0 ?_)
   ·simp only [go_sem]
    exact Nat.le_refl _
   ·simp only [go_sem]
    refine ⟨[],?_⟩
    simp only [go_sem]
    rw [hq1,hq2]
  ·rcases hcase with ⟨_,h2⟩ | ⟨_,h2⟩
   ·rw [sf s hn hq]
    refine ⟨by omega,?_⟩
    simp only [if_pos h2]
    refine Fu ?_ () (tau [([99],[25])]) rfl ?_
    ·simp only [go_sem]
    ·simp only [go_sem]
   ·exact absurd h2 (fun h=>by omega)
 ·rintro ⟨⟩
  rw [if_neg (Nat.lt_irrefl _)]
  exact EB
end Go.Proofs.YtejpnabbmgpmaaaGreatDoor

