/-
  What is read as a program of tokens is good: by the parts of an expr. (with the parts that follow it)
-/
import Derived.Test.YtejpnabbmgpmaaaGreatDoorVAG
import Derived.Test.YtejpnabbmgpmaaaGreatDoorVAF
import Derived.Test.YtejpnabbmgpmaaaGreatDoorVAE
set_option linter.all false
namespace Go.Proofs.YtejpnabbmgpmaaaGreatDoor
open Go.Ab
theorem SS.parted (s:PS) (t:Tok) (l:List EF) (h:∀ N,PSo N s→0≤t.pos∧t.pos≤N):SS s (s.parted t l):=by
 unfold PS.parted
 split
 ·exact SS.refl s
 split
 ·exact SS.fail s _ _ h
 split
 ·exact SS.fail s _ _ h
 ·exact SS.refl s
theorem SS.withp {s r:PS} (h:SS s r) (e p:Int) (hp:∀ N,PSo N s→0≤p∧p≤N):SS s (r.fail e p):=by
 unfold PS.fail
 split
 ·exact ⟨h.suf,h.fin,h.nest,hp⟩
 ·exact h
theorem SS.partp {s r:PS} (h:SS s r) (t:Tok) (l:List EF) (hp:∀ N,PSo N s→0≤t.pos∧t.pos≤N):SS s (r.parted t l):=by
 unfold PS.parted
 split
 ·exact h
 split
 ·exact SS.withp h _ _ hp
 split
 ·exact SS.withp h _ _ hp
 ·exact h
theorem SS.field (s:PS) (l:List EF):SS s (fG s l).2 :=
 (SS.partp (SS.of s 2) s.peek l fun _ h=>jK h).trans (SS.must _ _ _)
theorem SS.branch (s:PS) (l:List EF):SS s (dW s l).2 :=
 ((SS.partp (SS.of s 3) s.peek l fun _ h=>jK h).trans (SS.of _ _)).trans (SS.must _ _ _)
structure PGood (s:PS) (l:List EF) (ks:List (List EN)) (R:List EF × List (List EN) × PS):Prop where
 ss:SS s R.2.2
 eq:R.1.length=R.2.1.length
 tr:∀ k∈R.2.1,Tr k
 sz:bl R.2.1+4*R.2.2.l.length+3*R.1.length≤bl ks+4*s.l.length+3*l.length+4
 ln:R.1.length+R.2.2.l.length≤l.length+s.l.length+1
 wd:∀ b,(∀ k∈ks,e6 b k)→s.l.length+1≤b+R.2.2.l.length→∀ k∈R.2.1,e6 b k
theorem oG (ks:List (List EN)) (k:List EN):bl (ks++[k])=bl ks+k.length:=by simp [bl]
theorem oN (ex:PS→PR) (b:List UInt8) (part:PS→List EF→EF × PS):∀ (m:Nat) (s:PS) (l:List EF) (ks:List (List EN)),1≤(bt ex b part (m+1) s l ks).1.length
 | 0,s,l,ks=>by
   unfold bt;simp only
   split
   ·simp [bt]
   ·simp
 | m+1,s,l,ks=>by
   unfold bt;simp only
   split
   ·exact oN ex b part m _ _ _
   ·simp
section
variable {ex:PS→PR} (hex:∀ s,GP 1 s (ex s))
include hex
theorem eg (between:List UInt8) (part:PS→List EF→EF × PS) (hp:∀ s l,SS s (part s l).2):∀ (m:Nat) (s:PS) (l:List EF) (ks:List (List EN)),l.length=ks.length→(∀ k∈ks,Tr k) →
  PGood s l ks (bt ex between part m s l ks)
 | 0,s,l,ks,hl,ht=>⟨SS.refl s,hl,ht,by show bl ks+4*s.l.length+3*l.length≤_;omega,by show l.length+s.l.length≤_;omega,fun b h _=>h⟩
 | m+1,s,l,ks,hl,ht=>by
   have hf:=hp s l
   have he:=hex (part s l).2
   have h1:=he.sz
   have h2:=hf.len
   have h3:=he.ss.len
   have hks:∀ k∈ks++[(ex (part s l).2).1],Tr k:=fun k hk=>by
    rcases List.mem_append.1 hk with hk | hk
    ·exact ht k hk
    ·rw [List.mem_singleton.1 hk];exact he.tr
   unfold bt
   simp only
   split
   ·rename_i hs
    have h4:=aW hs
    have ih:=eg between part hp m (ex (part s l).2).2.next (l++[(part s l).1]) (ks++[(ex (part s l).2).1]) (by simp [hl]) hks
    have h5:=ih.ss.len
    have h6:=ih.sz
    have h7:=ih.ln
    rw [oG] at h6
    simp only [List.length_append,List.length_singleton] at h6 h7
    refine ⟨((hf.trans he.ss).trans (SS.next _)).trans ih.ss,ih.eq,ih.tr,by omega,by omega,fun b hb hle=>ih.wd b (fun k hk=>?_) (by omega)⟩
    rcases List.mem_append.1 hk with hk | hk
    ·exact hb k hk
    ·rw [List.mem_singleton.1 hk];exact he.wd.mono (by omega)
   ·refine ⟨hf.trans he.ss,by simp [hl],hks,?_,?_,fun b hb hle k hk=>?_⟩
    ·rw [oG];simp only [List.length_append,List.length_singleton];omega
    ·simp only [List.length_append,List.length_singleton];omega
    ·simp only at hle
     rcases List.mem_append.1 hk with hk | hk
     ·exact hb k hk
     ·rw [List.mem_singleton.1 hk];exact he.wd.mono (by omega)
theorem kS (s:PS) (pos:Int):GP 2 s (dO ex s pos):=by
 unfold dO
 split
 ·exact GP.leaf rfl rfl (SS.next s) (by rename_i h;have:=aW h;omega)
 ·have h:=eg hex [44] fG SS.field s.l.length.succ s [] [] rfl (fun _ h=>by cases h)
  generalize bt ex [44] fG s.l.length.succ s [] []=R at h
  have h1:=h.sz
  have h2:=h.ln
  have h3:=h.ss.len
  have h4:=(SS.must R.2.2 7 [125]).len
  simp only [bl,List.map_nil,List.sum_nil,List.length_nil] at h1 h2
  refine ⟨h.ss.trans (SS.must _ _ _),.join _ _ (by show 0+R.1.length=_;rw [h.eq];omega) h.tr,?_,cB (by show R.1.length≤_;simp only;omega) (h.wd _ (fun _ h=>by cases h) (by simp only;omega))⟩
  rw [cQ]
  simp only [bl]
  have h5:R.1=[]∨1≤R.1.length:=by cases R.1<;>simp
  rcases h5 with h5 | h5
  ·have:R.2.1=[]:=List.length_eq_zero_iff.1 (by rw [← h.eq,h5];rfl)
   rw [this];simp only [List.map_nil,List.sum_nil];omega
  ·omega
theorem nO (s:PS) (pos:Int):GP 3 s (fT ex s pos):=by
 unfold fT
 have he:=hex s
 have hm:=SS.must (ex s).2 1 bOf
 simp only
 generalize (ex s).2.must 1 bOf=s1 at hm
 have h:=eg hex [124] dW SS.branch s1.l.length.succ s1 [] [] rfl (fun _ h=>by cases h)
 generalize hR:bt ex [124] dW s1.l.length.succ s1 [] []=R at h
 have h1:=h.sz
 have h2:=h.ln
 have h3:=h.ss.len
 have h4:=(SS.must R.2.2 1 zC).len
 have h5:=he.sz
 have h6:=he.ss.len
 have h7:=hm.len
 have h8:1≤R.1.length:=by
  rw [← hR]
  exact oN _ _ _ _ _ _ _
 simp only [bl,List.map_nil,List.sum_nil,List.length_nil] at h1 h2
 refine ⟨((he.ss.trans hm).trans h.ss).trans (SS.must _ _ _),.join _ _ (by show 1+R.1.length=_;rw [h.eq,List.length_cons];omega) (fun l hl=>?_),?_,cB (by show R.1.length≤_;simp only;omega) fun l hl=>?_⟩
 ·rcases List.mem_cons.1 hl with rfl | hl
  ·exact he.tr
  ·exact h.tr l hl
 ·rw [cQ]
  simp only [bl,List.map_cons,List.sum_cons]
  omega
 ·rcases List.mem_cons.1 hl with rfl | hl
  ·exact he.wd.mono (by simp only;omega)
  ·exact h.wd _ (fun _ h=>by cases h) (by simp only;omega) l hl
def GQ (s:PS) (r:PR):Prop:=GP 1 s r∧(r.2.l.length<s.l.length→r.1.length+4*r.2.l.length+1≤4*s.l.length)
theorem jY (s:PS):GQ s (cX ex s):=by
 have lf:∀ n:EN,cj n=0→n.l=[]→s.next.l.length+1=s.l.length→GQ s (bR n,s.next):=fun n h1 h2 h3 =>
  ⟨GP.leaf h1 h2 (SS.next s) (by omega),fun _=>by show (aF n []).length+_+1≤_;rw [cQ];simp only [bl,List.map_nil,List.sum_nil];omega⟩
 have no:GQ s (noE,s.wrong):=⟨GP.leaf rfl rfl (SS.wrong s) (by have:=(SS.wrong s).len;omega),fun h=>absurd h (by show ¬ s.wrong.l.length<_;unfold PS.wrong PS.fail;split<;>simp)⟩
 unfold cX
 simp only
 split
 ·exact no
 split
 ·rename_i h;exact lf _ rfl rfl (eZ h (by decide))
 split
 ·rename_i h;exact lf _ rfl rfl (eZ h (by decide))
 split
 ·rename_i h;exact lf _ rfl rfl (eZ h (by decide))
 split
 ·rename_i h;exact lf _ rfl rfl (aW h)
 split
 ·rename_i h;exact lf _ rfl rfl (aW h)
 split
 ·rename_i h
  have h1:=aW h
  have he:=hex s.next
  have h2:=he.sz
  have h3:=(SS.must (ex s.next).2 7 [41]).len
  exact ⟨(GP.pre (e:=1) (r:=((ex s.next).1,(ex s.next).2)) he (SS.next s) (by omega)).post (SS.must _ _ _),fun _=>by simp only;omega⟩
 split
 ·rename_i h
  have h1:=aW h
  have he:=kS hex s.next s.peek.pos
  have h2:=he.sz
  exact ⟨he.pre (SS.next s) (by omega),fun _=>by omega⟩
 split
 ·rename_i h
  have h1:=aW h
  have he:=nO hex s.next s.peek.pos
  have h2:=he.sz
  exact ⟨he.pre (SS.next s) (by omega),fun _=>by omega⟩
 ·exact no
omit hex in
theorem kx (s0:PS):∀ (m:Nat) (a:List EN) (s:PS),GQ s0 (a,s)→GQ s0 (e9 m a s)
 | 0,_,_,h=>h
 | m+1,a,s,h=>by
   unfold e9
   split
   ·rename_i hs
    refine kx s0 m _ _ ?_
    have h1:=aW hs
    have h2:=(SS.of s.next 2).len
    have h3:=h.1.sz
    have h4:=h.1.ss.len
    simp only at h3 h4
    have hj:(aF { nd0 12 s.peek.pos with name:=(s.next.of 2).1 } [a]).length=a.length+1:=by rw [cQ];simp [bl]
    refine ⟨⟨(h.1.ss.trans (SS.next s)).trans (SS.of _ _),.join _ _ rfl (fun l hl=>by rw [List.mem_singleton.1 hl];exact h.1.tr),by rw [hj];simp only;omega,cB (Nat.zero_le _) fun l hl=>by rw [List.mem_singleton.1 hl];exact h.1.wd.mono (by simp only;omega)⟩,fun _=>by rw [hj];simp only;omega⟩
   ·exact h
theorem ee (s:PS):GQ s (cY ex s):=kx s _ _ _ (jY hex s)
omit hex in
theorem ue:∀ (m:Nat) (a:List EN) (s:PS),(e9 m a s).2.l.length≤s.l.length
 | 0,_,_=>Nat.le_refl _
 | m+1,a,s=>by
   unfold e9
   split
   ·have:=ue m (aF { nd0 12 s.peek.pos with name:=(s.next.of 2).1 } [a]) (s.next.of 2).2
    have:=(SS.of s.next 2).len
    have:=(SS.next s).len
    omega
   ·exact Nat.le_refl _
theorem ko {s:PS} (he:s.err=0) (hb:s.begins=true):(cY ex s).2.l.length<s.l.length:=by
 have h1:=ue (cX ex s).2.l.length.succ (cX ex s).1 (cX ex s).2
 have key:(cX ex s).2.l.length<s.l.length:=by
  unfold PS.begins at hb
  simp only [Bool.or_eq_true,Bool.and_eq_true,decide_eq_true_eq] at hb
  unfold cX
  simp only [he,ne_eq,not_true_eq_false,if_false]
  have hk:∀ k:Int,s.peek.k=k→k≠0→s.next.l.length<s.l.length:=fun k h h0=>by have:=eZ h h0;omega
  have hne:∀ k:Int,s.peek.k=k→k≠0→s.l.isEmpty=false:=fun k h h0=>by
   have:=eZ h h0
   cases hl:s.l with
   | nil=>rw [hl] at this;simp at this
   | cons _ _=>rfl
  split
  ·rename_i h;exact hk 4 h (by decide)
  split
  ·rename_i h;exact hk 5 h (by decide)
  split
  ·rename_i h;exact hk 2 h (by decide)
  rename_i g4 g5 g2
  split
  ·rename_i h;have:=aW h;simp only;omega
  rename_i g1
  split
  ·rename_i h;have:=aW h;simp only;omega
  rename_i g3
  split
  ·rename_i h
   have:=aW h
   have:=(hex s.next).ss.len
   have:=(SS.must (ex s.next).2 7 [41]).len
   simp only;omega
  rename_i g6
  split
  ·rename_i h
   have:=aW h
   have:=(kS hex s.next s.peek.pos).ss.len
   omega
  rename_i g7
  split
  ·rename_i h
   have:=aW h
   have:=(nO hex s.next s.peek.pos).ss.len
   omega
  rename_i g8
  exfalso
  have see:∀ k t,k≠0→s.peek.k=k→s.peek.s=t→s.sees k t=true:=fun k t h0 h h'=>by
   simp [PS.sees,PS.is,he,h,h',hne k h h0]
  rcases hb with (((h | h) | h) | ⟨h,h'⟩) | ⟨h,h'⟩
  ·exact g4 h
  ·exact g5 h
  ·exact g2 h
  ·rcases h' with (h' | h') | h'
   ·exact g1 (see 1 _ (by decide) h h')
   ·exact g3 (see 1 _ (by decide) h h')
   ·exact g8 (see 1 _ (by decide) h h')
  ·rcases h' with h' | h'
   ·exact g6 (see 7 _ (by decide) h h')
   ·exact g7 (see 7 _ (by decide) h h')
 exact Nat.lt_of_le_of_lt h1 key
theorem iA (s0:PS):∀ (m:Nat) (a:List EN) (s:PS),GP 1 s0 (a,s)→GP 1 s0 (gx ex m a s)
 | 0,_,_,h=>h
 | m+1,a,s,h=>by
   unfold gx
   split
   ·rename_i hs
    simp only [Bool.and_eq_true,decide_eq_true_eq] at hs
    have hp:=ee hex s
    have hl:=ko hex hs.1 hs.2
    have h2:=hp.2 hl
    have h3:=h.sz
    have h4:=h.ss.len
    simp only at h3 h4
    refine iA s0 m _ _ ⟨h.ss.trans hp.1.ss,.join _ _ rfl (fun l hl=>?_),?_,cB (Nat.zero_le _) fun l hl=>?_⟩
    ·rcases List.mem_cons.1 hl with rfl | hl
     ·exact h.tr
     ·rw [List.mem_singleton.1 hl];exact hp.1.tr
    ·rw [cQ]
     simp only [bl,List.map_cons,List.map_nil,List.sum_cons,List.sum_nil]
     omega
    ·rcases List.mem_cons.1 hl with rfl | hl
     ·exact h.wd.mono (by simp only;omega)
     ·rw [List.mem_singleton.1 hl];exact hp.1.wd.mono (by simp only;omega)
   ·exact h
theorem gN (s:PS):GP 1 s (j2 ex s):=by
 unfold j2
 simp only
 split
 ·rename_i h
  have h1:=Dg h (by decide)
  exact GP.Fb (ee hex s.next).1 (SS.next s) rfl rfl (by omega)
 ·exact iA hex s _ _ _ (ee hex s).1
omit hex in
theorem fK {s:PS}:∀ {ops:List (List UInt8 × Int)} {n:Int},opS s ops=some n→s.next.l.length+1=s.l.length
 | [],_,h=>by cases h
 | q::r,n,h=>by
   unfold opS at h
   split at h
   ·rename_i hs;exact aW hs
   ·exact fK h
omit hex in
theorem nM (ops:List (List UInt8 × Int)) (sub:PS→PR) (hsub:∀ s,GP 1 s (sub s)) (s0:PS):∀ (m:Nat) (a:List EN) (s:PS),GP 1 s0 (a,s)→GP 1 s0 (jd ops sub m a s)
 | 0,_,_,h=>h
 | m+1,a,s,h=>by
   unfold jd
   split
   ·rename_i n ho
    have h1:=fK ho
    exact nM ops sub hsub s0 m _ _ (GP.rk (s1:=s0) (a:=(a,s)) h (hsub s.next) (SS.refl s0) (SS.next s) rfl rfl (by simp only;omega))
   ·exact h
theorem fc (s:PS):GP 1 s (iH ex s):=nM _ _ (gN hex) s _ _ _ (gN hex s)
theorem gE (s:PS):GP 1 s (su ex s):=nM _ _ (fc hex) s _ _ _ (fc hex s)
theorem tT (s:PS):GP 1 s (ra ex s):=by
 unfold ra
 simp only
 split
 ·rename_i n ho
  have h1:=fK ho
  exact GP.rk (gE hex s) (gE hex _) (SS.refl s) (SS.next _) rfl rfl (by omega)
 ·exact gE hex s
omit hex in
theorem mS (s:PS) (e p:Int):(s.fail e p).l=s.l:=by unfold PS.fail;split<;>rfl
theorem rU (s:PS) (pos:Int):GP 3 s (qV ex s pos):=by
 unfold qV
 simp only
 obtain ⟨k,hk⟩:∃ k:Int,k=if s.sees 1 iS=true then 8 else 7:=⟨_,rfl⟩
 rw [← hk]
 have h0:=(SS.may s 1 iS).trans ((SS.of (s.may 1 iS) 2).trans (SS.must ((s.may 1 iS).of 2).2 7 [61]))
 generalize (((s.may 1 iS).of 2).2.must 7 [61])=s2 at h0
 have ha:=hex s2
 obtain ⟨s3,hq⟩:∃ s3,s3=if k=8∧(gu (ex s2).1).k≠5 then (ex s2).2.fail 5 s2.peek.pos else (ex s2).2:=⟨_,rfl⟩
 rw [← hq]
 have hb:=hex (s3.must 1 bIn)
 have hss:SS s2 s3:=by
  by_cases c:k=8∧(gu (ex s2).1).k≠5
  ·rw [if_pos c] at hq;rw [hq];exact SS.withp ha.ss _ _ fun _ h=>jK h
  ·rw [if_neg c] at hq;rw [hq];exact ha.ss
 have hl:s3.l=(ex s2).2.l:=by
  by_cases c:k=8∧(gu (ex s2).1).k≠5
  ·rw [if_pos c] at hq;rw [hq];exact mS _ _ _
  ·rw [if_neg c] at hq;rw [hq]
 have ha':GP 1 s2 ((ex s2).1,s3):=⟨hss,ha.tr,by simp only [hl];exact ha.sz,by simp only [hl];exact ha.wd⟩
 have h3:=(SS.must s3 1 bIn).len
 have h4:=h0.len
 refine GP.rk (a:=((ex s2).1,s3)) ha' hb h0 (SS.must _ _ _) ?_ rfl (by simp only;omega)
 rw [hk]
 split<;>rfl
theorem wZ (s:PS) (pos:Int):GP 4 s (ifS ex s pos):=by
 unfold ifS
 simp only
 exact GP.Hj (hex s) (hex _) (hex _) (SS.refl s) (SS.must _ _ _) (SS.must _ _ _) rfl rfl (by omega)
theorem xU (s:PS):GP 1 s (nR ex s):=by
 unfold nR
 simp only
 split
 ·rename_i h
  have h1:=aW h
  have h2:=(SS.of s.next 2).len
  have h3:=(SS.must (s.next.of 2).2 7 bTo).len
  exact GP.Fb (hex _) ((SS.next s).trans ((SS.of _ _).trans (SS.must _ _ _))) rfl rfl (by omega)
 split
 ·rename_i h
  have h1:=aW h
  exact (rU hex s.next _).pre (SS.next s) (by omega)
 split
 ·rename_i h
  have h1:=aW h
  exact (wZ hex s.next _).pre (SS.next s) (by omega)
 ·exact tT hex s
end
theorem ie:∀ (m:Nat) (s:PS),GP 1 s (gm m s)
 | 0,s=>GP.leaf rfl rfl (SS.failp s 6) (by have:=(SS.failp s 6).len;omega)
 | m+1,s=>by
   unfold gm
   split
   ·exact GP.leaf rfl rfl (SS.refl s) (by omega)
   ·have h:=xU (ie m) { s with nest:=s.nest+1 }
    refine ⟨⟨h.ss.suf,h.ss.fin,rfl,fun N hN=>h.ss.pos N hN⟩,h.tr,h.sz,h.wd⟩
end Go.Proofs.YtejpnabbmgpmaaaGreatDoor

namespace Go.Proofs.YtejpnabbmgpmaaaGreatDoor
open Go.Ab
def ag (l:List Tok):D:=.sl (some 4) (l.map gi)
def TO (l:List Tok) (fin:Int):List (Name × Ob):=[([101],.box [.d (ag l),.d (i64 fin)])]
def bI (l:List Tok) (fin:Int):Tok:=match l with
 | []=>⟨0,[],0,fin⟩
 | t::_=>t
theorem uG {G} (l:List Tok) (fin:Int):HCall Tryz.prog G 35 [.bx [101] 0] (TO l fin) [101] (fun r hp'=>r=.d (.bool l.isEmpty)∧hp'=TO l fin):=by
 unfold TO ag
 refine ao Tryz.func35 rfl (by decide +kernel) (by simp [Tryz.ntmps35]) (veil fun E=>?_)
 simp only [go_sem]
 refine j6 E (e:=99) false (by rw [Gx]) (by simp only [go_sem]) rfl ?_
 simp only [go_sem]
 refine ⟨_,_,[101],id,⟨rfl,rfl⟩,?_⟩
 simp only [go_sem]
 cases l with
 | nil=>rfl
 | cons t r=>simp only [List.length_cons,List.length_map,List.isEmpty_cons,decide_eq_false (show ¬ ((r.length+1:Nat):Int)=0 by omega),and_self]
theorem dj {G} (l:List Tok) (fin:Int) (hl:l.length≤1000000):HCall Tryz.prog G 69 [.bx [101] 0] (TO l fin) [101] (fun r hp'=>r=.d (.agg [i64 (bI l fin).k,.str (bI l fin).s,i64 (bI l fin).n,i64 (bI l fin).pos])∧hp'=TO l fin):=by
 unfold TO ag
 refine ao Tryz.func69 rfl (by decide +kernel) (by simp [Tryz.ntmps69]) (veil fun E=>?_)
 simp only [go_sem]
 refine j6 E (e:=99) false (by rw [Gx]) (by simp only [go_sem]) rfl ?_
 simp only [go_sem]
 refine ah E (fun h=>?_) (fun h=>?_)<;>simp only [go_sem]
 ·cases l with
  | nil =>
    refine ⟨_,_,[101],id,⟨rfl,rfl⟩,?_⟩
    simp only [go_sem]
    rfl
  | cons t r=>simp at h;omega
 ·cases l with
  | nil=>exact absurd (by simp) h
  | cons t r =>
    refine ⟨by simp,?_⟩
    rw [show (List.map gi (t::r)).getD 0 .nilp=.agg [i64 t.k,.str t.s,i64 t.n,i64 t.pos] from rfl]
    simp only [go_sem]
    refine ⟨_,_,[101],id,⟨rfl,rfl⟩,?_⟩
    simp only [go_sem]
    rfl
theorem il {G} (l:List Tok) (fin:Int) (hl:l.length≤1000000):HCall Tryz.prog G 114 [.bx [101] 0] (TO l fin) [101] (fun r hp'=>r=.d (.agg [i64 (bI l fin).k,.str (bI l fin).s,i64 (bI l fin).n,i64 (bI l fin).pos])∧hp'=TO l.tail fin):=by
 unfold TO ag
 refine ao Tryz.func114 rfl (by decide +kernel) (by simp [Tryz.ntmps114]) (veil fun E=>?_)
 simp only [go_sem]
 refine ae E [.bx [101] 0] (TO l fin) [101] (dj l fin hl) rfl rfl ⟨by simp only [go_sem],by rw [aa];decide⟩ rfl (by unfold TO ag;simp only [go_sem]) (by unfold TO;simp only [go_sem]) ?_
 rintro _ _ ⟨rfl,rfl⟩
 unfold TO ag
 simp only [go_sem]
 refine ae E [.bx [101] 0] (TO l fin) [101] (uG l fin) rfl rfl ⟨by simp only [go_sem],by rw [aa];decide⟩ rfl (by unfold TO ag;simp only [go_sem]) (by unfold TO;simp only [go_sem]) ?_
 rintro _ _ ⟨rfl,rfl⟩
 unfold TO ag
 simp only [go_sem]
 refine aG E (fun h=>?_) (fun h=>?_)<;>simp only [go_sem]
 ·cases l with
  | nil=>exact absurd h (by simp)
  | cons t r =>
    refine ⟨by simp only [List.length_cons];omega,_,_,[101],id,⟨rfl,rfl⟩,?_⟩
    simp only [go_sem]
    rfl
 ·cases l with
  | nil =>
    refine ⟨_,_,[101],id,⟨rfl,rfl⟩,?_⟩
    simp only [go_sem]
    rfl
  | cons t r=>exact absurd h (by simp)
def isT (l:List Tok) (fin k:Int) (t:List UInt8):Bool:=!l.isEmpty && decide ((bI l fin).k=k) && decide ((bI l fin).s=t)
theorem C8 {G} (l:List Tok) (fin k:Int) (t:List UInt8) (hl:l.length≤1000000) (hk:k≠0∧k≠4):HCall Tryz.prog G 159 [.bx [101] 0,.d (i64 k),.d (.str t)] (TO l fin) [101] (fun r hp'=>r=.d (.bool (isT l fin k t))∧hp'=TO l fin):=by
 unfold isT
 unfold TO ag
 refine ao Tryz.func159 rfl (by decide +kernel) (by simp [Tryz.ntmps159]) (veil fun E=>?_)
 simp only [go_sem]
 refine ae E [.bx [101] 0] (TO l fin) [101] (dj l fin hl) rfl rfl ⟨by simp only [go_sem],by rw [aa];decide⟩ rfl (by unfold TO ag;simp only [go_sem]) (by unfold TO;simp only [go_sem]) ?_
 rintro _ _ ⟨rfl,rfl⟩
 unfold TO ag
 simp only [go_sem]
 refine ae E [.bx [101] 0] (TO l fin) [101] (uG l fin) rfl rfl ⟨by simp only [go_sem],by rw [aa];decide⟩ rfl (by unfold TO ag;simp only [go_sem]) (by unfold TO;simp only [go_sem]) ?_
 rintro _ _ ⟨rfl,rfl⟩
 unfold TO ag
 simp only [go_sem]
 refine bz E (fun h1=>?_) (fun h1=>?_)<;>simp only [go_sem]
 ·refine ar E (fun h2=>?_) (fun h2=>?_)<;>simp only [go_sem]
  ·refine ar E (fun h3=>?_) (fun h3=>absurd hk.1 h3)
   simp only [go_sem]
   refine bz E (fun h4=>?_) (fun h4=>?_)<;>simp only [go_sem]
   ·refine ⟨_,_,[101],id,⟨rfl,rfl⟩,?_⟩
    simp only [go_sem]
    rw [h1,decide_eq_true h2,decide_eq_true (show (bI l fin).s=t by simpa using h4)]
    rfl
   ·refine ⟨_,_,[101],id,⟨rfl,rfl⟩,?_⟩
    simp only [go_sem]
    rw [h1,decide_eq_true h2,decide_eq_false (show ¬ (bI l fin).s=t by simpa using h4),decide_eq_false hk.2]
    rfl
  ·refine ⟨_,_,[101],id,⟨rfl,rfl⟩,?_⟩
   simp only [go_sem]
   rw [decide_eq_false h2,Bool.and_false,Bool.false_and]
 ·refine ⟨_,_,[101],id,⟨rfl,rfl⟩,?_⟩
  simp only [go_sem]
  rw [h1,Bool.false_and,Bool.false_and]
theorem Dz {G} (l:List Tok) (fin k:Int) (t:List UInt8) (hl:l.length≤1000000) (hk:k≠0∧k≠4):HCall Tryz.prog G 143 [.bx [101] 0,.d (i64 k),.d (.str t)] (TO l fin) [101] (fun r hp'=>r=.d (.bool (isT l fin k t))∧hp'=TO (if isT l fin k t then l.tail else l) fin):=by
 obtain ⟨b,hb⟩:∃ b,b=isT l fin k t:=⟨_,rfl⟩
 have h0:=C8 (G:=G) l fin k t hl hk
 have h1:=il (G:=G) l fin hl
 rw [← hb] at h0 ⊢
 generalize hX:(if b then l.tail else l)=X
 unfold TO ag at *
 refine ao Tryz.func143 rfl (by decide +kernel) (by simp [Tryz.ntmps143]) (veil fun E=>?_)
 simp only [go_sem]
 refine ae E [.bx [101] 0,.d (i64 k),.d (.str t)] (TO l fin) [101] (h0) rfl rfl ⟨by simp only [go_sem],by rw [aa];decide⟩ rfl (by unfold TO ag;simp only [go_sem]) (by unfold TO;simp only [go_sem]) ?_
 rintro _ _ ⟨rfl,rfl⟩
 unfold TO ag
 simp only [go_sem]
 refine aG E (fun h=>?_) (fun h=>?_)<;>simp only [go_sem]
 ·refine ae E [.bx [101] 0] (TO l fin) [101] (h1) rfl rfl ⟨by simp only [go_sem],by rw [aa];decide⟩ rfl (by unfold TO ag;simp only [go_sem]) (by unfold TO;simp only [go_sem]) ?_
  rintro _ _ ⟨rfl,rfl⟩
  unfold TO ag
  simp only [go_sem]
  refine ⟨_,_,[101],id,⟨rfl,rfl⟩,?_⟩
  simp only [go_sem]
  rw [← hX,h]
  rfl
 ·refine ⟨_,_,[101],id,⟨rfl,rfl⟩,?_⟩
  simp only [go_sem]
  rw [← hX,h]
  rfl
def RO (s:PS):List (Name × Ob):=([100],.box [.bx [101] 0,.d (i64 s.err),.d (i64 s.pos),.d (i64 s.nest)])::TO s.l s.fin
theorem ei {G} (s:PS):HCall Tryz.prog G 71 [.bx [100] 0] (RO s) [100,101] (fun r hp'=>r=.d (.bool (decide (s.err=0)))∧hp'=RO s):=by
 unfold RO TO ag
 refine ao Tryz.func71 rfl (by decide +kernel) (by simp [Tryz.ntmps71]) (veil fun E=>?_)
 simp only [go_sem]
 refine ⟨_,_,[100,101],id,⟨rfl,rfl⟩,?_⟩
 simp only [go_sem]
theorem nB {G} (s:PS) (e p:Int):HCall Tryz.prog G 70 [.bx [100] 0,.d (i64 e),.d (i64 p)] (RO s) [100,101] (fun r hp'=>r=.tup []∧hp'=RO (s.fail e p)):=by
 generalize hX:s.fail e p=X
 unfold PS.fail at hX
 unfold RO TO ag
 refine ao Tryz.func70 rfl (by decide +kernel) (by simp [Tryz.ntmps70]) (veil fun E=>?_)
 simp only [go_sem]
 refine ae E [.bx [100] 0] (RO s) [100,101] (ei s) rfl rfl ⟨by simp only [go_sem],by rw [aa];decide⟩ rfl (by unfold RO TO ag;simp only [go_sem]) (by unfold RO TO;simp only [go_sem]) ?_
 rintro _ _ ⟨rfl,rfl⟩
 unfold RO TO ag
 simp only [go_sem]
 refine ah E (fun h=>?_) (fun h=>?_)<;>simp only [go_sem]
 ·refine ⟨_,_,[100,101],id,⟨rfl,rfl⟩,?_⟩
  rw [← hX,if_pos h]
  simp only [go_sem]
 ·refine ⟨_,_,[100,101],id,⟨rfl,rfl⟩,?_⟩
  rw [← hX,if_neg h]
  simp only [go_sem]
theorem ix (s:PS):s.peek=bI s.l s.fin:=rfl
theorem mN {G} (s:PS) (hl:s.l.length≤1000000):HCall Tryz.prog G 36 [.bx [100] 0] (RO s) [100,101] (fun r hp'=>r=.tup []∧hp'=RO s.wrong):=by
 generalize hX:s.wrong=X
 unfold PS.wrong at hX
 rw [ix] at hX
 unfold RO TO ag
 refine ao Tryz.func36 rfl (by decide +kernel) (by simp [Tryz.ntmps36]) (veil fun E=>?_)
 simp only [go_sem]
 refine ae E [.bx [101] 0] (TO s.l s.fin) [101] (dj s.l s.fin hl) rfl rfl ⟨by simp only [go_sem],by rw [aa];decide⟩ rfl (by unfold TO ag;simp only [go_sem]) (by unfold TO;simp only [go_sem]) ?_
 rintro _ _ ⟨rfl,rfl⟩
 unfold TO ag
 simp only [go_sem]
 refine ae E [.bx [100] 0,.d (i64 5),.d (i64 (bI s.l s.fin).pos)] (RO s) [100,101] (nB s 5 (bI s.l s.fin).pos) rfl rfl ⟨by simp only [go_sem],by rw [aa];decide⟩ rfl (by unfold RO TO ag;simp only [go_sem]) (by unfold RO TO;simp only [go_sem]) ?_
 rintro _ _ ⟨rfl,rfl⟩
 unfold RO TO ag
 simp only [go_sem]
 refine ⟨_,_,[100,101],id,⟨rfl,rfl⟩,?_⟩
 rw [← hX]
 simp only [go_sem]
end Go.Proofs.YtejpnabbmgpmaaaGreatDoor

namespace Go.Proofs.YtejpnabbmgpmaaaGreatDoor
open Go.Ab
theorem qx {G} (s:PS) (k:Int) (t:List UInt8) (hl:s.l.length≤1000000) (hk:k≠0∧k≠4):HCall Tryz.prog G 113 [.bx [100] 0,.d (i64 k),.d (.str t)] (RO s) [100,101] (fun r hp'=>r=.d (.bool (s.sees k t))∧hp'=RO (s.may k t)):=by
 have h0:=Dz (G:=G) s.l s.fin k t hl hk
 generalize hb:isT s.l s.fin k t=b at h0
 obtain ⟨c,hc⟩:∃ c,c=s.sees k t:=⟨_,rfl⟩
 generalize hX:s.may k t=X
 rw [← hc]
 have hc':c=(decide (s.err=0) && b):=by rw [hc,← hb];rfl
 have hX':X=if c then s.next else s:=by rw [hc,← hX];rfl
 unfold PS.next at hX'
 generalize hY:(if b then s.l.tail else s.l)=Y at h0
 unfold RO TO ag
 refine ao Tryz.func113 rfl (by decide +kernel) (by simp [Tryz.ntmps113]) (veil fun E=>?_)
 simp only [go_sem]
 refine ae E [.bx [100] 0] (RO s) [100,101] (ei s) rfl rfl ⟨by simp only [go_sem],by first | (rw [aa];decide) | (simp only [go_sem]<;>(try rw [aa])<;>decide)⟩ rfl (by unfold RO TO ag;simp only [go_sem]) (by unfold RO TO;simp only [go_sem]) ?_
 rintro _ _ ⟨rfl,rfl⟩
 unfold RO TO ag
 simp only [go_sem]
 refine ar E (fun h=>?_) (fun h=>?_)<;>simp only [go_sem]
 ·refine ae E [.bx [101] 0,.d (i64 k),.d (.str t)] (TO s.l s.fin) [101] (h0) rfl rfl ⟨by simp only [go_sem],by first | (rw [aa];decide) | (simp only [go_sem]<;>(try rw [aa])<;>decide)⟩ rfl (by unfold TO ag;simp only [go_sem]) (by unfold TO;simp only [go_sem]) ?_
  rintro _ _ ⟨rfl,rfl⟩
  unfold TO ag
  simp only [go_sem]
  refine ⟨_,_,[100,101],id,⟨rfl,rfl⟩,?_⟩
  simp only [go_sem]
  rw [decide_eq_true h,Bool.true_and] at hc'
  rw [hc'] at hX'
  rw [hc']
  subst hX' hY
  cases b<;>exact ⟨rfl,rfl,rfl⟩
 ·refine ⟨_,_,[100,101],id,⟨rfl,rfl⟩,?_⟩
  simp only [go_sem]
  rw [decide_eq_false h,Bool.false_and] at hc'
  rw [hc'] at hX'
  subst hX'
  rw [hc']
  exact ⟨rfl,rfl,rfl⟩
theorem iW {G} (s:PS) (t:List UInt8) (hl:s.l.length≤1000000):HCall Tryz.prog G 74 [.bx [100] 0,.d (.str t)] (RO s) [100,101] (fun r hp'=>r=.d (.bool (s.sees 1 t))∧hp'=RO (s.may 1 t)):=by
 have h0:=qx (G:=G) s 1 t hl (by decide)
 generalize s.sees 1 t=c at h0 ⊢
 generalize s.may 1 t=X at h0 ⊢
 unfold RO TO ag
 refine ao Tryz.func74 rfl (by decide +kernel) (by simp [Tryz.ntmps74]) (veil fun E=>?_)
 simp only [go_sem]
 refine ae E [.bx [100] 0,.d (i64 1),.d (.str t)] (RO s) [100,101] (h0) rfl rfl ⟨by simp only [go_sem],by first | (rw [aa];decide) | (simp only [go_sem]<;>(try rw [aa])<;>decide)⟩ rfl (by unfold RO TO ag;simp only [go_sem]) (by unfold RO TO;simp only [go_sem]) ?_
 rintro _ _ ⟨rfl,rfl⟩
 unfold RO TO ag
 simp only [go_sem]
 refine ⟨_,_,[100,101],id,⟨rfl,rfl⟩,?_⟩
 simp only [go_sem]
theorem ir {G} (s:PS) (t:List UInt8) (hl:s.l.length≤1000000):HCall Tryz.prog G 146 [.bx [100] 0,.d (.str t)] (RO s) [100,101] (fun r hp'=>r=.d (.bool (s.sees 7 t))∧hp'=RO (s.may 7 t)):=by
 have h0:=qx (G:=G) s 7 t hl (by decide)
 generalize s.sees 7 t=c at h0 ⊢
 generalize s.may 7 t=X at h0 ⊢
 unfold RO TO ag
 refine ao Tryz.func146 rfl (by decide +kernel) (by simp [Tryz.ntmps146]) (veil fun E=>?_)
 simp only [go_sem]
 refine ae E [.bx [100] 0,.d (i64 7),.d (.str t)] (RO s) [100,101] (h0) rfl rfl ⟨by simp only [go_sem],by first | (rw [aa];decide) | (simp only [go_sem]<;>(try rw [aa])<;>decide)⟩ rfl (by unfold RO TO ag;simp only [go_sem]) (by unfold RO TO;simp only [go_sem]) ?_
 rintro _ _ ⟨rfl,rfl⟩
 unfold RO TO ag
 simp only [go_sem]
 refine ⟨_,_,[100,101],id,⟨rfl,rfl⟩,?_⟩
 simp only [go_sem]
theorem ek {G} (s:PS) (k:Int) (t:List UInt8) (hl:s.l.length≤1000000) (hk:k≠0∧k≠4):HCall Tryz.prog G 76 [.bx [100] 0,.d (i64 k),.d (.str t)] (RO s) [100,101] (fun r hp'=>r=.tup []∧hp'=RO (s.must k t)):=by
 have h0:=qx (G:=G) s k t hl hk
 have h1:=mN (G:=G) s hl
 generalize hX:s.must k t=X
 generalize hY:s.may k t=Y at h0
 generalize hZ:s.wrong=Z at h1
 generalize hb:s.sees k t=b at h0
 have hX':X=if b then Y else Z:=by rw [← hX,← hY,← hZ,← hb];unfold PS.must PS.may;cases s.sees k t<;>rfl
 have hYs:b=false→Y=s:=by rw [← hY,← hb];unfold PS.may;intro h;rw [h];rfl
 unfold RO TO ag
 refine ao Tryz.func76 rfl (by decide +kernel) (by simp [Tryz.ntmps76]) (veil fun E=>?_)
 simp only [go_sem]
 refine ae E [.bx [100] 0,.d (i64 k),.d (.str t)] (RO s) [100,101] (h0) rfl rfl ⟨by simp only [go_sem],by first | (rw [aa];decide) | (simp only [go_sem]<;>(try rw [aa])<;>decide)⟩ rfl (by unfold RO TO ag;simp only [go_sem]) (by unfold RO TO;simp only [go_sem]) ?_
 rintro _ _ ⟨rfl,rfl⟩
 unfold RO TO ag
 simp only [go_sem]
 refine aG E (fun h=>?_) (fun h=>?_)<;>simp only [go_sem]
 ·have h':b=false:=by simpa using h
  rw [hYs h']
  refine ae E [.bx [100] 0] (RO s) [100,101] (h1) rfl rfl ⟨by simp only [go_sem],by first | (rw [aa];decide) | (simp only [go_sem]<;>(try rw [aa])<;>decide)⟩ rfl (by unfold RO TO ag;simp only [go_sem]) (by unfold RO TO;simp only [go_sem]) ?_
  rintro _ _ ⟨rfl,rfl⟩
  unfold RO TO ag
  simp only [go_sem]
  refine ⟨_,_,[100,101],id,⟨rfl,rfl⟩,?_⟩
  simp only [go_sem]
  rw [hX',h']
  exact ⟨rfl,rfl⟩
 ·have h':b=true:=by simpa using h
  refine ⟨_,_,[100,101],id,⟨rfl,rfl⟩,?_⟩
  simp only [go_sem]
  rw [hX',h']
  exact ⟨rfl,rfl⟩
theorem kL {G} (s:PS) (k:Int) (hl:s.l.length≤1000000):HCall Tryz.prog G 75 [.bx [100] 0,.d (i64 k)] (RO s) [100,101] (fun r hp'=>r=.d (.str (s.of k).1)∧hp'=RO (s.of k).2):=by
 have h0:=mN (G:=G) s hl
 have h1:=il (G:=G) s.l s.fin hl
 generalize hX:s.of k=X
 unfold PS.of PS.has at hX
 rw [ix] at hX
 unfold RO TO ag
 refine ao Tryz.func75 rfl (by decide +kernel) (by simp [Tryz.ntmps75]) (veil fun E=>?_)
 simp only [go_sem]
 refine ae E [.bx [100] 0] (RO s) [100,101] (ei s) rfl rfl ⟨by simp only [go_sem],by first | (rw [aa];decide) | (simp only [go_sem]<;>(try rw [aa])<;>decide)⟩ rfl (by unfold RO TO ag;simp only [go_sem]) (by unfold RO TO;simp only [go_sem]) ?_
 rintro _ _ ⟨rfl,rfl⟩
 unfold RO TO ag
 simp only [go_sem]
 refine bz E (fun h=>?_) (fun h=>?_)<;>simp only [go_sem]
 ·have h':¬ s.err=0:=by simpa using h
  refine ae E [.bx [100] 0] (RO s) [100,101] (h0) rfl rfl ⟨by simp only [go_sem],by first | (rw [aa];decide) | (simp only [go_sem]<;>(try rw [aa])<;>decide)⟩ rfl (by unfold RO TO ag;simp only [go_sem]) (by unfold RO TO;simp only [go_sem]) ?_
  rintro _ _ ⟨rfl,rfl⟩
  unfold RO TO ag
  simp only [go_sem]
  refine ⟨_,_,[100,101],id,⟨rfl,rfl⟩,?_⟩
  simp only [go_sem]
  rw [← hX,decide_eq_false h']
  exact ⟨rfl,rfl,rfl⟩
 ·have h':s.err=0:=by simpa using h
  refine ae E [.bx [101] 0] (TO s.l s.fin) [101] (dj s.l s.fin hl) rfl rfl ⟨by simp only [go_sem],by first | (rw [aa];decide) | (simp only [go_sem]<;>(try rw [aa])<;>decide)⟩ rfl (by unfold TO ag;simp only [go_sem]) (by unfold TO;simp only [go_sem]) ?_
  rintro _ _ ⟨rfl,rfl⟩
  unfold TO ag
  simp only [go_sem]
  refine ah E (fun h2=>?_) (fun h2=>?_)<;>simp only [go_sem]
  ·refine ae E [.bx [100] 0] (RO s) [100,101] (h0) rfl rfl ⟨by simp only [go_sem],by first | (rw [aa];decide) | (simp only [go_sem]<;>(try rw [aa])<;>decide)⟩ rfl (by unfold RO TO ag;simp only [go_sem]) (by unfold RO TO;simp only [go_sem]) ?_
   rintro _ _ ⟨rfl,rfl⟩
   unfold RO TO ag
   simp only [go_sem]
   refine ⟨_,_,[100,101],id,⟨rfl,rfl⟩,?_⟩
   simp only [go_sem]
   rw [← hX,decide_eq_true h',decide_eq_false h2]
   exact ⟨rfl,rfl,rfl⟩
  ·have h2':(bI s.l s.fin).k=k:=by simpa using h2
   refine ae E [.bx [101] 0] (TO s.l s.fin) [101] (h1) rfl rfl ⟨by simp only [go_sem],by first | (rw [aa];decide) | (simp only [go_sem]<;>(try rw [aa])<;>decide)⟩ rfl (by unfold TO ag;simp only [go_sem]) (by unfold TO;simp only [go_sem]) ?_
   rintro _ _ ⟨rfl,rfl⟩
   unfold TO ag
   simp only [go_sem]
   refine ⟨_,_,[100,101],id,⟨rfl,rfl⟩,?_⟩
   simp only [go_sem]
   rw [← hX,decide_eq_true h',decide_eq_true h2']
   exact ⟨rfl,rfl,rfl⟩
inductive DLe:D→D→Prop
 | refl (x):DLe x x
 | nil (w):DLe .nils (.sl w [])
 | agg (cs ds:List D) (hl:cs.length=ds.length) (hc:∀ d∈ds,d.scal=true) (h:∀ (i:Nat) x y,cs[i]?=some x→ds[i]?=some y→x=y∨∃ w,x=.nils∧y=.sl w []):DLe (.agg cs) (.agg ds)
theorem DLe.rep {x y:D} (h:DLe x y) {H own v} (hr:Rep H own v x):Rep H own v y:=by
 cases h with
 | refl=>exact hr
 | nil w=>cases hr;exact .sl0 _ _ _
 | agg cs ds hl hc h =>
   cases hr with
   | agg vs _ hs _ h' =>
     refine .agg vs ds (hs.trans hl) hc fun i d hd=>?_
     have hlt:=(List.getElem?_eq_some_iff.1 hd).1
     have hx:cs[i]?=some (cs[i]'(by omega)):=List.getElem?_eq_getElem _
     have hr:=h' i _ hx
     rcases h i _ _ hx hd with e | ⟨w,e1,e2⟩
     ·rw [← e];exact hr
     ·rw [e1] at hr
      rw [e2]
      generalize vs.getD i undef=v at hr ⊢
      cases hr
      exact .sl0 _ _ _
theorem HP.le {P:Program} {G:List (Nat × Obj)} {f:FuncId} {args args':List D} {Q:AV→Prop} (hl:args.length=args'.length)
  (hr:∀ (i:Nat) x y,args[i]?=some x→args'[i]?=some y→DLe x y) (h:HP P G f args' Q):HP P G f args Q:=by
 refine ⟨h.1,fun B β vs w h1 h2 h3 h4 h5=>h.2 B β vs w (h1.trans (by simpa using hl)) h2 h3 h4 { tms:=h5.tms,io:=h5.io,size:=h5.size,frame:=h5.frame,slots:=fun t=>?_,objs:=h5.objs,blocks:=h5.blocks,inj:=h5.inj,us:=h5.us,stay:=h5.stay }⟩
 have hv:=h5.slots t
 rw [cS,aN,if_pos (Nat.zero_le _),Nat.sub_zero] at hv ⊢
 show VR w.heap ((mk (aB 0 (args.map .d)) [] []).own B.A β) [] _ β _ _
 rw [List.getElem?_map] at hv ⊢
 cases hx:args[t]? with
 | none => 
   rw [List.getElem?_eq_none (by rw [← hl];exact List.getElem?_eq_none_iff.1 hx)]
   exact .un _
 | some x =>
   have hlt:=(List.getElem?_eq_some_iff.1 hx).1
   have hy:args'[t]?=some args'[t]:=List.getElem?_eq_getElem (by omega)
   rw [hx] at hv
   rw [hy]
   simp only [Option.map_some] at hv ⊢
   generalize vs.getD t undef=v at hv ⊢
   cases hv with
   | d _ _ hv=>exact .d _ _ ((hr t _ _ hx hy).rep hv)
def ndN (n:EN):D:=.agg [i64 n.k,i64 n.a,i64 n.b,i64 n.c,i64 n.n,.str n.name,.str n.s,.nils,i64 n.pos]
theorem zU {n:EN} (h:n.l=[]):DLe (ndN n) (enD n):=by
 unfold ndN enD efD
 rw [h]
 refine .agg _ _ rfl (by simp [D.scal]) fun i x y hx hy=>?_
 by_cases hi:i=7
 ·subst hi
  cases hx;cases hy
  exact .inr ⟨_,rfl,rfl⟩
 ·left
  have:i<9:=by have:=(List.getElem?_eq_some_iff.1 hx).1;simpa using this
  rcases i with _ | _ | _ | _ | _ | _ | _ | _ | _ | i<;>first | omega | (cases hx;cases hy;rfl)
theorem iJ {G} (n:EN) (ls:List (List EN)) (hn:n.l=[]) (hL:ls.length≤1000000) (hS:bl ls≤1000000) (hk:∀ l∈ls,∀ m∈l,fH l.length m) (hw:∀ l∈ls,e6 900000 l) :
  HP Tryz.prog G 77 [ndN n,.sl (some 1) (ls.map exD)] (fun r=>r=.d (exD (aF n ls))) :=
 HP.le (args':=[enD n,.sl (some 1) (ls.map exD)]) rfl (h:=qU n ls (by rw [hn];exact Nat.zero_le _) hL hS hk hw) fun i x y hx hy=>by
  rcases i with _ | _ | i
  ·cases hx;cases hy;exact zU hn
  ·cases hx;cases hy;exact .refl _
  ·cases hx
theorem Ij {G} (n:EN) (hn:n.l=[]):HP Tryz.prog G 77 [ndN n,.nils] (fun r=>r=.d (exD (bR n))) :=
 HP.le (args':=[enD n,.sl (some 1) ([].map exD)]) rfl (h:=qU n [] (by rw [hn];exact Nat.zero_le _) (Nat.zero_le _) (Nat.zero_le _) (fun l h=>by cases h) (fun l h=>by cases h)) fun i x y hx hy=>by
  rcases i with _ | _ | i
  ·cases hx;cases hy;exact zU hn
  ·cases hx;cases hy;exact .nil _
  ·cases hx
theorem eW {G} (n:EN) (hn:n.l=[]):HP Tryz.prog G 72 [ndN n] (fun r=>r=.d (exD (bR n))):=by
 have h0:=Ij (G:=G) n hn
 generalize bR n=X at h0 ⊢
 unfold ndN at *
 refine aL Tryz.func72 rfl (by decide +kernel) (by simp [Tryz.ntmps72]) (veil fun E=>?_)
 simp only [go_sem]
 refine ab E h0 rfl rfl (by simp) ?_
 rintro _ rfl
 unfold exD
 simp only [go_sem]
 refine ⟨[],?_⟩
 simp only [go_sem]
 rfl
end Go.Proofs.YtejpnabbmgpmaaaGreatDoor

namespace Go.Proofs.YtejpnabbmgpmaaaGreatDoor
open Go.Ab
abbrev OPS:=List (List UInt8 × Int)
def opL (l:OPS):D:=.sl (some 2) (l.map fun q=>.agg [.str q.1,i64 q.2])
def opN (s:PS) (l:OPS):EN:=match opS s l with | some n=>{ nd0 10 s.peek.pos with n:=n } | none=>nd0 0 0
def opR (s:PS) (l:OPS):PS:=match opS s l with | some _=>s.next | none=>s
theorem AD {s:PS} {l:OPS} {i:Nat} (h:i<l.length):opS s (l.drop i)=if s.sees 7 l[i].1 then some l[i].2 else opS s (l.drop (i+1)):=by
 rw [List.drop_eq_getElem_cons h,opS]
theorem pR {G} (s:PS) (l:OPS) (hl:s.l.length≤1000000) (hn:l.length≤1000):HCall Tryz.prog G 117 [.bx [100] 0,.d (opL l)] (RO s) [100,101] (fun r hp'=>r=.tup [.d (ndN (opN s l)),.d (.bool (opS s l).isSome)]∧hp'=RO (opR s l)):=by
 generalize hO:opS s l=o
 generalize hN:opN s l=N
 generalize hR:opR s l=R
 unfold RO TO ag opL
 refine ao Tryz.func117 rfl (by decide +kernel) (by simp [Tryz.ntmps117]) (veil fun E=>?_)
 simp only [go_sem]
 refine ae E [.bx [101] 0] (TO s.l s.fin) [101] (dj s.l s.fin hl) rfl rfl ⟨by simp only [go_sem],by first | (rw [aa];decide) | (simp only [go_sem]<;>(try rw [aa])<;>decide)⟩ rfl (by unfold TO ag;simp only [go_sem]) (by unfold TO;simp only [go_sem]) ?_
 rintro _ _ ⟨rfl,rfl⟩
 unfold TO ag
 simp only [go_sem]
 refine aC E (X:={ i:Nat // i≤l.length∧opS s (l.drop i)=o }) (fun x=>[(0,.bx [100] 0),(4,.bx [4] 0),(5,.d (.bool false)),(6,.d (i64 (bI s.l s.fin).pos)),(15,.d (.sl (some 2) (l.map fun q=>.agg [.str q.1,i64 q.2]))),(16,.d (i64 l.length)),(17,.d (i64 x.1))])
  (fun x=>[([4],.box [.d (i64 0),.d (i64 0),.d (i64 0),.d (i64 0),.d (i64 0),.d (.str []),.d (.str []),.d .nils,.d (i64 0)]),([100],.box [.bx [101] 0,.d (i64 s.err),.d (i64 s.pos),.d (i64 s.nest)]),([101],.box [.d (.sl (some 4) (s.l.map gi)),.d (i64 s.fin)])]) [4,100,101] (fun x=>l.length-x.1) ⟨0,Nat.zero_le _,by rw [List.drop_zero];exact hO⟩ id ?_ ?_
 ·simp only [go_sem]
  all_goals rfl
 rintro ⟨i,hi,ho⟩ E0
 refine aO E0 fun Q' hQ E'=>?_
 simp only at hi ⊢
 simp only [go_sem]
 refine ah E' (fun h1=>?_) (fun h1=>?_)<;>simp only [go_sem]
 ·have h1':i<l.length:=by omega
  rw [AD h1'] at ho
  refine ⟨⟨by omega,by omega⟩,?_⟩
  rw [show (l.map fun q=>D.agg [.str q.1,i64 q.2]).getD i .nilp=.agg [.str l[i].1,i64 l[i].2] by simp [h1']]
  simp only [go_sem]
  have h0:=ir (G:=G) s l[i].1 hl
  generalize hb:s.sees 7 l[i].1=b at h0 ho
  generalize hM:s.may 7 l[i].1=M at h0
  refine ae E' [.bx [100] 0,.d (.str l[i].1)] (RO s) [100,101] (h0) rfl rfl ⟨by simp only [go_sem],by first | (rw [aa];decide) | (simp only [go_sem]<;>(try rw [aa])<;>decide)⟩ rfl (by unfold RO TO ag;simp only [go_sem]) (by unfold RO TO;simp only [go_sem]) ?_
  rintro _ _ ⟨rfl,rfl⟩
  unfold RO TO ag
  simp only [go_sem]
  refine aG E' (fun h=>?_) (fun h=>?_)<;>simp only [go_sem]
  ·rw [hQ]
   simp only [go_sem]
   rw [if_pos h] at ho
   refine ⟨_,_,[100,101],id,⟨rfl,rfl⟩,?_⟩
   simp only [go_sem]
   have hM':M=s.next:=by rw [← hM];unfold PS.may;rw [hb,h];rfl
   rw [← hN,← hR,hM',← ho]
   unfold opN opR
   rw [hO,← ho]
   exact ⟨rfl,rfl,rfl⟩
  ·rw [hQ]
   simp only [go_sem]
   rw [if_neg (by simpa using h)] at ho
   have hM':M=s:=by rw [← hM];unfold PS.may;rw [hb,h];rfl
   rw [hM',ai ⟨by omega,by omega⟩]
   refine ⟨⟨i+1,by omega,ho⟩,by show l.length-(i+1)<_;omega,id,?_⟩
   simp only [go_sem]
   all_goals rfl
 ·rw [hQ]
  have hi2:i=l.length:=by omega
  rw [hi2,List.drop_length] at ho
  simp only [go_sem]
  refine ⟨_,_,[100,101],id,⟨rfl,rfl⟩,?_⟩
  simp only [go_sem]
  rw [← hN,← hR]
  unfold opN opR
  rw [hO,← ho]
  exact ⟨rfl,rfl,rfl⟩
end Go.Proofs.YtejpnabbmgpmaaaGreatDoor

namespace Go.Proofs.YtejpnabbmgpmaaaGreatDoor
open Go.Ab
def Reads (f:Nat) (G:List (Nat × Obj)) (N:Nat) (sub:PS→PR):Prop:=∀ s:PS,s.l.length≤100000→s.nest=N→HCall Tryz.prog G f [.bx [100] 0] (RO s) [100,101] (fun r hp'=>r=.d (exD (sub s).1)∧hp'=RO (sub s).2)
theorem EC {G} {N:Nat} {ex:PS→PR} (hex:∀ s,GP 1 s (ex s)) (hc:Reads 160 G N (j2 ex)):Reads 145 G N (iH ex):=by
 intro s hl hN
 have hsg:=gN hex
 obtain ⟨sub,hsub⟩:∃ sub,sub=j2 ex:=⟨_,rfl⟩
 have hF:iH ex s=jd eU sub (sub s).2.l.length.succ (sub s).1 (sub s).2:=by rw [hsub];rfl
 rw [hF]
 rw [← hsub] at hc hsg
 generalize hR:jd eU sub (sub s).2.l.length.succ (sub s).1 (sub s).2=R
 have h0:=hsg s
 obtain ⟨a0,s0,hs0⟩:∃ a0 s0,sub s=(a0,s0):=⟨_,_,rfl⟩
 have hc0:=hc s hl hN
 rw [hs0] at hR h0 hc0
 simp only at hR hc0
 unfold RO TO ag
 refine ao Tryz.func145 rfl (by decide +kernel) (by simp [Tryz.ntmps145]) (veil fun E=>?_)
 simp only [go_sem]
 refine ae E [.bx [100] 0] (RO s) [100,101] (hc0) rfl rfl ⟨by simp only [go_sem],by first | (rw [aa];decide) | (simp only [go_sem]<;>(try rw [aa])<;>decide)⟩ rfl (by unfold RO TO ag;simp only [go_sem]) (by unfold RO TO;simp only [go_sem]) ?_
 rintro _ _ ⟨rfl,rfl⟩
 unfold RO TO ag
 simp only [go_sem]
 unfold exD
 simp only [go_sem]
 refine aC E (X:={ x:Nat × List EN × PS // jd eU sub x.1 x.2.1 x.2.2=R∧GP 1 s x.2∧x.2.2.l.length<x.1 }) (fun x=>[(0,.bx [100] 0),(2,.bx [2] 0),(3,.bx [3] 0)])
  (fun x=>[([2],.box [.d .nils]),([3],.box [.d (.sl (some 9) (x.1.2.1.map enD))]),([100],.box [.bx [101] 0,.d (i64 x.1.2.2.err),.d (i64 x.1.2.2.pos),.d (i64 x.1.2.2.nest)]),([101],.box [.d (.sl (some 4) (x.1.2.2.l.map gi)),.d (i64 x.1.2.2.fin)])]) [2,3,100,101] (fun x=>x.1.2.2.l.length) ⟨(s0.l.length.succ,a0,s0),hR,h0,Nat.lt_succ_self _⟩ id ?_ ?_
 ·simp only [go_sem]
  all_goals rfl
 rintro ⟨⟨m,a,q⟩,hb,hg,hm⟩ E0
 refine aO E0 fun Q' hQ E'=>?_
 simp only at hb hg hm ⊢
 have hql:q.l.length≤s.l.length:=hg.ss.len
 obtain ⟨m,rfl⟩:∃ k,m=k+1:=⟨m-1,by omega⟩
 rw [jd] at hb
 simp only [go_sem]
 refine BJ E' [12] (some 2) [.agg [.str [42],i64 3],.agg [.str [47],i64 4]] rfl ?_
 rw [pJ]
 simp only [go_sem]
 have h1:=pR (G:=G) q eU (by omega) (by decide)
 unfold opR opN at h1
 cases ho:opS q eU with
 | none =>
   rw [ho] at h1 hb
   simp only at h1 hb
   subst hb
   unfold ndN at h1
   refine ae E' [.bx [100] 0,.d (opL eU)] (RO q) [100,101] (h1) rfl rfl ⟨by simp only [go_sem],by first | (rw [aa];decide) | (simp only [go_sem]<;>(try rw [aa])<;>decide)⟩ rfl (by unfold RO TO ag;simp only [go_sem]) (by unfold RO TO;simp only [go_sem]) ?_
   rintro _ _ ⟨rfl,rfl⟩
   unfold RO TO ag
   simp only [go_sem]
   rw [hQ]
   simp only [go_sem]
   refine ⟨_,_,[100,101],id,⟨rfl,rfl⟩,?_⟩
   simp only [go_sem]
   rfl
 | some n =>
   rw [ho] at h1 hb
   simp only at h1 hb
   unfold ndN at h1
   refine ae E' [.bx [100] 0,.d (opL eU)] (RO q) [100,101] (h1) rfl rfl ⟨by simp only [go_sem],by first | (rw [aa];decide) | (simp only [go_sem]<;>(try rw [aa])<;>decide)⟩ rfl (by unfold RO TO ag;simp only [go_sem]) (by unfold RO TO;simp only [go_sem]) ?_
   rintro _ _ ⟨rfl,rfl⟩
   unfold RO TO ag
   simp only [go_sem]
   refine ak mixed E' fun X=>?_
   simp only [go_sem]
   obtain ⟨b0,q1,hq1⟩:∃ b0 q1,sub q.next=(b0,q1):=⟨_,_,rfl⟩
   have h2:=hc q.next (by have:=(SS.next q).len;omega) ((SS.next q).nest.trans (hg.ss.nest.trans hN))
   have h3:=hsg q.next
   rw [hq1] at h2 h3 hb
   unfold exD at h2
   refine cl X [.bx [100] 0] (RO q.next) [100,101] _ _ h2 rfl rfl ⟨by simp only [go_sem],by rw [aa];decide⟩ rfl (by unfold RO TO ag;simp only [go_sem]) (by unfold RO TO;simp only [go_sem]) (by unfold RO TO;simp only [go_sem]) ?_
   unfold RO TO ag
   simp only [go_sem]
   have ht2:=h3.tr
   have hz1:=hg.sz
   have hz2:=h3.sz
   have hn2:=(SS.next q).len
   simp only at ht2 hz1 hz2
   have h4:=iJ (G:=G) { nd0 10 q.peek.pos with n:=n } [a,b0] rfl (by simp) (by simp only [bl,List.map_cons,List.map_nil,List.sum_cons,List.sum_nil];omega)
    (fun l h=>by
     rcases List.mem_cons.1 h with rfl | h
     ·exact hg.tr.kids.2
     ·rw [List.mem_singleton.1 h];exact ht2.kids.2)
    (fun l h=>by
     rcases List.mem_cons.1 h with rfl | h
     ·exact hg.wd.mono (by omega)
     ·rw [List.mem_singleton.1 h];exact h3.wd.mono (by omega))
   have h5:=GP.rk (e:=1) (n:={ nd0 10 q.peek.pos with n:=n }) (s1:=s) (a:=(a,q)) (b:=(b0,q1)) hg h3 (SS.refl s) (SS.next q) rfl rfl (by have:=fK ho;simp only;omega)
   simp only at h5
   generalize aF { nd0 10 q.peek.pos with n:=n } [a,b0]=J at h4 h5 hb
   unfold exD at h4
   refine b6 X 23 [23] (some 1) [.agg [.sl (some 9) (a.map enD)],.agg [.sl (some 9) (b0.map enD)]] h4 (fun _=>rfl) rfl rfl rfl (by simp) rfl (by simp only [go_sem]) ?_
   simp only [go_sem]
   refine ⟨by decide +kernel,?_⟩
   rw [hQ]
   simp only [go_sem]
   refine ⟨⟨(m,J,q1),hb,h5,by have:=fK ho;have:=h3.ss.len;show q1.l.length<m;simp only at this;omega⟩,by have:=fK ho;have:=h3.ss.len;show q1.l.length<q.l.length;simp only at this;omega,id,?_⟩
   simp only [go_sem]
   all_goals rfl
theorem Dc {G} {N:Nat} {ex:PS→PR} (hex:∀ s,GP 1 s (ex s)) (hc:Reads 145 G N (iH ex)):Reads 116 G N (su ex):=by
 intro s hl hN
 have hsg:=fc hex
 obtain ⟨sub,hsub⟩:∃ sub,sub=iH ex:=⟨_,rfl⟩
 have hF:su ex s=jd gK sub (sub s).2.l.length.succ (sub s).1 (sub s).2:=by rw [hsub];rfl
 rw [hF]
 rw [← hsub] at hc hsg
 generalize hR:jd gK sub (sub s).2.l.length.succ (sub s).1 (sub s).2=R
 have h0:=hsg s
 obtain ⟨a0,s0,hs0⟩:∃ a0 s0,sub s=(a0,s0):=⟨_,_,rfl⟩
 have hc0:=hc s hl hN
 rw [hs0] at hR h0 hc0
 simp only at hR hc0
 unfold RO TO ag
 refine ao Tryz.func116 rfl (by decide +kernel) (by simp [Tryz.ntmps116]) (veil fun E=>?_)
 simp only [go_sem]
 refine ae E [.bx [100] 0] (RO s) [100,101] (hc0) rfl rfl ⟨by simp only [go_sem],by first | (rw [aa];decide) | (simp only [go_sem]<;>(try rw [aa])<;>decide)⟩ rfl (by unfold RO TO ag;simp only [go_sem]) (by unfold RO TO;simp only [go_sem]) ?_
 rintro _ _ ⟨rfl,rfl⟩
 unfold RO TO ag
 simp only [go_sem]
 unfold exD
 simp only [go_sem]
 refine aC E (X:={ x:Nat × List EN × PS // jd gK sub x.1 x.2.1 x.2.2=R∧GP 1 s x.2∧x.2.2.l.length<x.1 }) (fun x=>[(0,.bx [100] 0),(2,.bx [2] 0),(3,.bx [3] 0)])
  (fun x=>[([2],.box [.d .nils]),([3],.box [.d (.sl (some 9) (x.1.2.1.map enD))]),([100],.box [.bx [101] 0,.d (i64 x.1.2.2.err),.d (i64 x.1.2.2.pos),.d (i64 x.1.2.2.nest)]),([101],.box [.d (.sl (some 4) (x.1.2.2.l.map gi)),.d (i64 x.1.2.2.fin)])]) [2,3,100,101] (fun x=>x.1.2.2.l.length) ⟨(s0.l.length.succ,a0,s0),hR,h0,Nat.lt_succ_self _⟩ id ?_ ?_
 ·simp only [go_sem]
  all_goals rfl
 rintro ⟨⟨m,a,q⟩,hb,hg,hm⟩ E0
 refine aO E0 fun Q' hQ E'=>?_
 simp only at hb hg hm ⊢
 have hql:q.l.length≤s.l.length:=hg.ss.len
 obtain ⟨m,rfl⟩:∃ k,m=k+1:=⟨m-1,by omega⟩
 rw [jd] at hb
 simp only [go_sem]
 refine BJ E' [13] (some 2) [.agg [.str [43],i64 1],.agg [.str [45],i64 2],.agg [.str [94],i64 7]] rfl ?_
 rw [pJ]
 simp only [go_sem]
 have h1:=pR (G:=G) q gK (by omega) (by decide)
 unfold opR opN at h1
 cases ho:opS q gK with
 | none =>
   rw [ho] at h1 hb
   simp only at h1 hb
   subst hb
   unfold ndN at h1
   refine ae E' [.bx [100] 0,.d (opL gK)] (RO q) [100,101] (h1) rfl rfl ⟨by simp only [go_sem],by first | (rw [aa];decide) | (simp only [go_sem]<;>(try rw [aa])<;>decide)⟩ rfl (by unfold RO TO ag;simp only [go_sem]) (by unfold RO TO;simp only [go_sem]) ?_
   rintro _ _ ⟨rfl,rfl⟩
   unfold RO TO ag
   simp only [go_sem]
   rw [hQ]
   simp only [go_sem]
   refine ⟨_,_,[100,101],id,⟨rfl,rfl⟩,?_⟩
   simp only [go_sem]
   rfl
 | some n =>
   rw [ho] at h1 hb
   simp only at h1 hb
   unfold ndN at h1
   refine ae E' [.bx [100] 0,.d (opL gK)] (RO q) [100,101] (h1) rfl rfl ⟨by simp only [go_sem],by first | (rw [aa];decide) | (simp only [go_sem]<;>(try rw [aa])<;>decide)⟩ rfl (by unfold RO TO ag;simp only [go_sem]) (by unfold RO TO;simp only [go_sem]) ?_
   rintro _ _ ⟨rfl,rfl⟩
   unfold RO TO ag
   simp only [go_sem]
   refine ak mixed E' fun X=>?_
   simp only [go_sem]
   obtain ⟨b0,q1,hq1⟩:∃ b0 q1,sub q.next=(b0,q1):=⟨_,_,rfl⟩
   have h2:=hc q.next (by have:=(SS.next q).len;omega) ((SS.next q).nest.trans (hg.ss.nest.trans hN))
   have h3:=hsg q.next
   rw [hq1] at h2 h3 hb
   unfold exD at h2
   refine cl X [.bx [100] 0] (RO q.next) [100,101] _ _ h2 rfl rfl ⟨by simp only [go_sem],by rw [aa];decide⟩ rfl (by unfold RO TO ag;simp only [go_sem]) (by unfold RO TO;simp only [go_sem]) (by unfold RO TO;simp only [go_sem]) ?_
   unfold RO TO ag
   simp only [go_sem]
   have ht2:=h3.tr
   have hz1:=hg.sz
   have hz2:=h3.sz
   have hn2:=(SS.next q).len
   simp only at ht2 hz1 hz2
   have h4:=iJ (G:=G) { nd0 10 q.peek.pos with n:=n } [a,b0] rfl (by simp) (by simp only [bl,List.map_cons,List.map_nil,List.sum_cons,List.sum_nil];omega)
    (fun l h=>by
     rcases List.mem_cons.1 h with rfl | h
     ·exact hg.tr.kids.2
     ·rw [List.mem_singleton.1 h];exact ht2.kids.2)
    (fun l h=>by
     rcases List.mem_cons.1 h with rfl | h
     ·exact hg.wd.mono (by omega)
     ·rw [List.mem_singleton.1 h];exact h3.wd.mono (by omega))
   have h5:=GP.rk (e:=1) (n:={ nd0 10 q.peek.pos with n:=n }) (s1:=s) (a:=(a,q)) (b:=(b0,q1)) hg h3 (SS.refl s) (SS.next q) rfl rfl (by have:=fK ho;simp only;omega)
   simp only at h5
   generalize aF { nd0 10 q.peek.pos with n:=n } [a,b0]=J at h4 h5 hb
   unfold exD at h4
   refine b6 X 24 [24] (some 1) [.agg [.sl (some 9) (a.map enD)],.agg [.sl (some 9) (b0.map enD)]] h4 (fun _=>rfl) rfl rfl rfl (by simp) rfl (by simp only [go_sem]) ?_
   simp only [go_sem]
   refine ⟨by decide +kernel,?_⟩
   rw [hQ]
   simp only [go_sem]
   refine ⟨⟨(m,J,q1),hb,h5,by have:=fK ho;have:=h3.ss.len;show q1.l.length<m;simp only at this;omega⟩,by have:=fK ho;have:=h3.ss.len;show q1.l.length<q.l.length;simp only at this;omega,id,?_⟩
   simp only [go_sem]
   all_goals rfl
end Go.Proofs.YtejpnabbmgpmaaaGreatDoor

namespace Go.Proofs.YtejpnabbmgpmaaaGreatDoor
open Go.Ab
theorem GH {G} {N:Nat} {ex:PS→PR} (hex:∀ s,GP 1 s (ex s)) (hc:Reads 116 G N (su ex)):Reads 80 G N (ra ex):=by
 intro s hl hN
 have hsg:=gE hex
 obtain ⟨sub,hsub⟩:∃ sub,sub=su ex:=⟨_,rfl⟩
 have hF:ra ex s=match opS (sub s).2 iN with
  | some n=>(aF { nd0 10 (sub s).2.peek.pos with n:=n } [(sub s).1,(sub (sub s).2.next).1],(sub (sub s).2.next).2)
  | none=>sub s:=by rw [hsub];rfl
 rw [hF]
 rw [← hsub] at hc hsg
 generalize hR:(match opS (sub s).2 iN with
  | some n=>(aF { nd0 10 (sub s).2.peek.pos with n:=n } [(sub s).1,(sub (sub s).2.next).1],(sub (sub s).2.next).2)
  | none=>sub s:PR)=R
 have hg:=hsg s
 obtain ⟨a,q,hs0⟩:∃ a q,sub s=(a,q):=⟨_,_,rfl⟩
 have hc0:=hc s hl hN
 rw [hs0] at hR hg hc0
 simp only at hR hc0
 have hql:q.l.length≤s.l.length:=hg.ss.len
 unfold exD at hc0
 have h1:=pR (G:=G) q iN (by omega) (by decide)
 unfold opR opN at h1
 unfold RO TO ag
 refine ao Tryz.func80 rfl (by decide +kernel) (by simp [Tryz.ntmps80]) (veil fun E=>?_)
 simp only [go_sem]
 refine ae E [.bx [100] 0] (RO s) [100,101] (hc0) rfl rfl ⟨by simp only [go_sem],by first | (rw [aa];decide) | (simp only [go_sem]<;>(try rw [aa])<;>decide)⟩ rfl (by unfold RO TO ag;simp only [go_sem]) (by unfold RO TO;simp only [go_sem]) ?_
 rintro _ _ ⟨rfl,rfl⟩
 unfold RO TO ag
 simp only [go_sem]
 refine BJ E [12] (some 2) [.agg [.str [60],i64 5],.agg [.str [61,61],i64 6]] rfl ?_
 rw [pJ]
 simp only [go_sem]
 cases ho:opS q iN with
 | none =>
   rw [ho] at h1 hR
   simp only at h1 hR
   subst hR
   unfold ndN at h1
   refine ae E [.bx [100] 0,.d (opL iN)] (RO q) [100,101] (h1) rfl rfl ⟨by simp only [go_sem],by first | (rw [aa];decide) | (simp only [go_sem]<;>(try rw [aa])<;>decide)⟩ rfl (by unfold RO TO ag;simp only [go_sem]) (by unfold RO TO;simp only [go_sem]) ?_
   rintro _ _ ⟨rfl,rfl⟩
   unfold RO TO ag
   simp only [go_sem]
   refine ⟨_,_,[100,101],id,⟨rfl,rfl⟩,?_⟩
   simp only [go_sem]
   rfl
 | some n =>
   rw [ho] at h1 hR
   simp only at h1 hR
   unfold ndN at h1
   refine ae E [.bx [100] 0,.d (opL iN)] (RO q) [100,101] (h1) rfl rfl ⟨by simp only [go_sem],by first | (rw [aa];decide) | (simp only [go_sem]<;>(try rw [aa])<;>decide)⟩ rfl (by unfold RO TO ag;simp only [go_sem]) (by unfold RO TO;simp only [go_sem]) ?_
   rintro _ _ ⟨rfl,rfl⟩
   unfold RO TO ag
   simp only [go_sem]
   refine ak mixed E fun X=>?_
   simp only [go_sem]
   obtain ⟨b0,q1,hq1⟩:∃ b0 q1,sub q.next=(b0,q1):=⟨_,_,rfl⟩
   have h2:=hc q.next (by have:=(SS.next q).len;omega) ((SS.next q).nest.trans (hg.ss.nest.trans hN))
   have h3:=hsg q.next
   rw [hq1] at h2 h3 hR
   unfold exD at h2
   refine cl X [.bx [100] 0] (RO q.next) [100,101] _ _ h2 rfl rfl ⟨by simp only [go_sem],by rw [aa];decide⟩ rfl (by unfold RO TO ag;simp only [go_sem]) (by unfold RO TO;simp only [go_sem]) (by unfold RO TO;simp only [go_sem]) ?_
   unfold RO TO ag
   simp only [go_sem]
   have ht2:=h3.tr
   have hz1:=hg.sz
   have hz2:=h3.sz
   have hn2:=(SS.next q).len
   simp only at ht2 hz1 hz2
   have h4:=iJ (G:=G) { nd0 10 q.peek.pos with n:=n } [a,b0] rfl (by simp) (by simp only [bl,List.map_cons,List.map_nil,List.sum_cons,List.sum_nil];omega)
    (fun l h=>by
     rcases List.mem_cons.1 h with rfl | h
     ·exact hg.tr.kids.2
     ·rw [List.mem_singleton.1 h];exact ht2.kids.2)
    (fun l h=>by
     rcases List.mem_cons.1 h with rfl | h
     ·exact hg.wd.mono (by omega)
     ·rw [List.mem_singleton.1 h];exact h3.wd.mono (by omega))
   generalize aF { nd0 10 q.peek.pos with n:=n } [a,b0]=J at h4 hR
   unfold exD at h4
   refine b6 X 21 [21] (some 1) [.agg [.sl (some 9) (a.map enD)],.agg [.sl (some 9) (b0.map enD)]] h4 (fun _=>rfl) rfl rfl rfl (by simp) rfl (by simp only [go_sem]) ?_
   simp only [go_sem]
   refine ⟨by decide +kernel,?_⟩
   rw [← hR]
   refine ⟨_,_,[100,101],id,⟨rfl,rfl⟩,?_⟩
   simp only [go_sem]
   rfl
end Go.Proofs.YtejpnabbmgpmaaaGreatDoor

namespace Go.Proofs.YtejpnabbmgpmaaaGreatDoor
open Go.Ab
theorem cL {s:PS} {k:Int} {t:List UInt8} (h:s.sees k t=true):s.may k t=s.next:=by unfold PS.may;rw [h];rfl
theorem eI {s:PS} {k:Int} {t:List UInt8} (h:s.sees k t=false):s.may k t=s:=by unfold PS.may;rw [h];rfl
theorem DC {G} {N:Nat} {ex:PS→PR} (hex:∀ s,GP 1 s (ex s)) (hc:Reads 178 G N (cX ex)):Reads 171 G N (cY ex):=by
 intro s hl hN
 have hg0:=jY hex s
 have hc0:=hc s hl hN
 have hF:cY ex s=e9 (cX ex s).2.l.length.succ (cX ex s).1 (cX ex s).2:=rfl
 rw [hF]
 obtain ⟨a0,s0,hs0⟩:∃ a0 s0,cX ex s=(a0,s0):=⟨_,_,rfl⟩
 rw [hs0] at hg0 hc0 ⊢
 simp only at hc0 ⊢
 generalize hR:e9 s0.l.length.succ a0 s0=R
 unfold exD at hc0
 unfold RO TO ag
 refine ao Tryz.func171 rfl (by decide +kernel) (by simp [Tryz.ntmps171]) (veil fun E=>?_)
 simp only [go_sem]
 refine ae E [.bx [100] 0] (RO s) [100,101] (hc0) rfl rfl ⟨by simp only [go_sem],by first | (rw [aa];decide) | (simp only [go_sem]<;>(try rw [aa])<;>decide)⟩ rfl (by unfold RO TO ag;simp only [go_sem]) (by unfold RO TO;simp only [go_sem]) ?_
 rintro _ _ ⟨rfl,rfl⟩
 unfold RO TO ag
 simp only [go_sem]
 refine aC E (X:={ x:Nat × List EN × PS // e9 x.1 x.2.1 x.2.2=R∧GQ s x.2∧x.2.2.l.length<x.1 }) (fun x=>[(0,.bx [100] 0),(2,.bx [2] 0),(3,.bx [3] 0)])
  (fun x=>[([2],.box [.d .nils]),([3],.box [.d (.sl (some 9) (x.1.2.1.map enD))]),([100],.box [.bx [101] 0,.d (i64 x.1.2.2.err),.d (i64 x.1.2.2.pos),.d (i64 x.1.2.2.nest)]),([101],.box [.d (.sl (some 4) (x.1.2.2.l.map gi)),.d (i64 x.1.2.2.fin)])]) [2,3,100,101] (fun x=>x.1.2.2.l.length) ⟨(s0.l.length.succ,a0,s0),hR,hg0,Nat.lt_succ_self _⟩ id ?_ ?_
 ·simp only [go_sem]
  all_goals rfl
 rintro ⟨⟨m,a,q⟩,hb,hg,hm⟩ E0
 refine aO E0 fun Q' hQ E'=>?_
 simp only at hb hg hm ⊢
 have hql:q.l.length≤s.l.length:=hg.1.ss.len
 obtain ⟨m,rfl⟩:∃ k,m=k+1:=⟨m-1,by omega⟩
 have hgn:=kx s 1 a q hg
 rw [e9] at hb
 rw [show e9 1 a q=if q.sees 7 [46] then (aF { nd0 12 q.peek.pos with name:=(q.next.of 2).1 } [a],(q.next.of 2).2) else (a,q) from rfl] at hgn
 simp only [go_sem]
 refine ae E' [.bx [101] 0] (TO q.l q.fin) [101] (dj q.l q.fin (by omega)) rfl rfl ⟨by simp only [go_sem],by first | (rw [aa];decide) | (simp only [go_sem]<;>(try rw [aa])<;>decide)⟩ rfl (by unfold TO ag;simp only [go_sem]) (by unfold TO;simp only [go_sem]) ?_
 rintro _ _ ⟨rfl,rfl⟩
 unfold TO ag
 simp only [go_sem]
 refine ae E' [.bx [100] 0,.d (.str [46])] (RO q) [100,101] (ir q [46] (by omega)) rfl rfl ⟨by simp only [go_sem],by first | (rw [aa];decide) | (simp only [go_sem]<;>(try rw [aa])<;>decide)⟩ rfl (by unfold RO TO ag;simp only [go_sem]) (by unfold RO TO;simp only [go_sem]) ?_
 rintro _ _ ⟨rfl,rfl⟩
 unfold RO TO ag
 simp only [go_sem]
 refine aG E' (fun h=>?_) (fun h=>?_)<;>simp only [go_sem]
 ·have h':q.sees 7 [46]=false:=by simpa using h
  rw [h'] at hb
  rw [eI h',hQ]
  simp only [Bool.false_eq_true,if_false] at hb
  subst hb
  simp only [go_sem]
  refine ⟨_,_,[100,101],id,⟨rfl,rfl⟩,?_⟩
  simp only [go_sem]
  rfl
 ·have h':q.sees 7 [46]=true:=by simpa using h
  have hsl:=aW h'
  rw [h'] at hb hgn
  simp only [if_true] at hb hgn
  rw [cL h']
  refine ak mixed E' fun X=>?_
  simp only [go_sem]
  have h2:=kL (G:=G) q.next 2 (by omega)
  obtain ⟨nm,q1,hq1⟩:∃ nm q1,q.next.of 2=(nm,q1):=⟨_,_,rfl⟩
  have hq1l:=(SS.of q.next 2).len
  rw [hq1] at h2 hb hgn hq1l
  simp only at hq1l
  refine cl X [.bx [100] 0,.d (i64 2)] (RO q.next) [100,101] _ _ h2 rfl rfl ⟨by simp only [go_sem],by rw [aa];decide⟩ rfl (by unfold RO TO ag;simp only [go_sem]) (by unfold RO TO;simp only [go_sem]) (by unfold RO TO;simp only [go_sem]) ?_
  unfold RO TO ag
  simp only [go_sem]
  have hz1:=hg.1.sz
  simp only at hz1
  have h4:=iJ (G:=G) { nd0 12 q.peek.pos with name:=nm } [a] rfl (by simp) (by simp only [bl,List.map_cons,List.map_nil,List.sum_cons,List.sum_nil];omega)
   (fun l h=>by rw [List.mem_singleton.1 h];exact hg.1.tr.kids.2)
   (fun l h=>by rw [List.mem_singleton.1 h];exact hg.1.wd.mono (by omega))
  simp only at hb hgn
  generalize aF { nd0 12 q.peek.pos with name:=nm } [a]=J at h4 hb hgn
  unfold exD at h4
  refine b6 X 22 [22] (some 1) [.agg [.sl (some 9) (a.map enD)]] h4 (fun _=>rfl) rfl rfl rfl (by simp) rfl (by simp only [go_sem]) ?_
  simp only [go_sem]
  refine ⟨by decide +kernel,?_⟩
  rw [hQ]
  simp only [go_sem]
  refine ⟨⟨(m,J,q1),hb,hgn,by show q1.l.length<m;omega⟩,by show q1.l.length<q.l.length;omega,id,?_⟩
  simp only [go_sem]
  all_goals rfl
end Go.Proofs.YtejpnabbmgpmaaaGreatDoor

namespace Go.Proofs.YtejpnabbmgpmaaaGreatDoor
open Go.Ab
def Gv (k:Int) (t:List UInt8):Bool:=decide (k=4) || decide (k=5) || decide (k=2) || (decide (k=1) && (decide (t=eV) || decide (t=cE) || decide (t=jS))) || (decide (k=7) && (decide (t=[40]) || decide (t=[123])))
theorem w1 {G} (s:PS) (hl:s.l.length≤1000000):HCall Tryz.prog G 172 [.bx [100] 0] (RO s) [100,101] (fun r hp'=>r=.d (.bool s.begins)∧hp'=RO s):=by
 have hB:s.begins=Gv (bI s.l s.fin).k (bI s.l s.fin).s:=rfl
 rw [hB]
 have h0:=dj (G:=G) s.l s.fin hl
 generalize bI s.l s.fin=t at h0 ⊢
 generalize hb:Gv t.k t.s=b
 unfold Gv at hb
 unfold RO TO ag
 refine ao Tryz.func172 rfl (by decide +kernel) (by simp [Tryz.ntmps172]) (veil fun E=>?_)
 simp only [go_sem]
 refine ae E [.bx [101] 0] (TO s.l s.fin) [101] (h0) rfl rfl ⟨by simp only [go_sem],by first | (rw [aa];decide) | (simp only [go_sem]<;>(try rw [aa])<;>decide)⟩ rfl (by unfold TO ag;simp only [go_sem]) (by unfold TO;simp only [go_sem]) ?_
 rintro _ _ ⟨rfl,rfl⟩
 unfold TO ag
 simp only [go_sem]
 refine ah E (fun h1=>?_) (fun h1=>?_)<;>simp only [go_sem]
 ·rw [decide_eq_true h1]
  simp only [go_sem]
  refine ⟨_,_,[100,101],id,⟨rfl,rfl⟩,?_⟩
  simp only [go_sem]
  simp [← hb,h1]
 refine ah E (fun h2=>?_) (fun h2=>?_)<;>simp only [go_sem]
 ·rw [decide_eq_true h2]
  simp only [go_sem]
  refine ⟨_,_,[100,101],id,⟨rfl,rfl⟩,?_⟩
  simp only [go_sem]
  simp [← hb,h2]
 refine ah E (fun h3=>?_) (fun h3=>?_)<;>simp only [go_sem]
 ·refine ⟨_,_,[100,101],id,⟨rfl,rfl⟩,?_⟩
  simp only [go_sem]
  simp [← hb,h3]
 refine ah E (fun h4=>?_) (fun h4=>?_)<;>simp only [go_sem]
 ·refine bz E (fun h6=>?_) (fun h6=>?_)<;>simp only [go_sem]
  ·refine ⟨_,_,[100,101],id,⟨rfl,rfl⟩,?_⟩
   simp only [go_sem]
   have h6':t.s=eV:=by simpa [eV] using h6
   simp [← hb,h4,h6']
  refine bz E (fun h7=>?_) (fun h7=>?_)<;>simp only [go_sem]
  ·refine ⟨_,_,[100,101],id,⟨rfl,rfl⟩,?_⟩
   simp only [go_sem]
   have h7':t.s=cE:=by simpa [cE] using h7
   simp [← hb,h4,h7']
  ·refine ⟨_,_,[100,101],id,⟨rfl,rfl⟩,?_⟩
   simp only [go_sem]
   have h6':¬ t.s=eV:=by simpa [eV] using h6
   have h7':¬ t.s=cE:=by simpa [cE] using h7
   by_cases h8:t.s=jS
   ·simp [← hb,h4,h8,jS]
   ·have h8':=h8;unfold jS at h8';simp [← hb,h4,h6',h7',h8,h8']
 refine ah E (fun h5=>?_) (fun h5=>?_)<;>simp only [go_sem]
 ·refine bz E (fun h6=>?_) (fun h6=>?_)<;>simp only [go_sem]
  ·refine ⟨_,_,[100,101],id,⟨rfl,rfl⟩,?_⟩
   simp only [go_sem]
   have h6':t.s=[40]:=by simpa using h6
   simp [← hb,h5,h6']
  ·refine ⟨_,_,[100,101],id,⟨rfl,rfl⟩,?_⟩
   simp only [go_sem]
   have h6':¬ t.s=[40]:=by simpa using h6
   by_cases h8:t.s=[123]<;>simp [← hb,h5,h6',h8]
 ·refine ⟨_,_,[100,101],id,⟨rfl,rfl⟩,?_⟩
  simp only [go_sem]
  simp [← hb,h1,h2,h3,h4,h5]
theorem C2 {G} {N:Nat} {ex:PS→PR} (hex:∀ s,GP 1 s (ex s)) (hc:Reads 171 G N (cY ex)):Reads 160 G N (j2 ex):=by
 intro s hl hN
 generalize hR:j2 ex s=R
 unfold j2 PS.has at hR
 rw [ix] at hR
 have hsg:=ee hex
 have hpk:=dj (G:=G) s.l s.fin (by omega)
 generalize bI s.l s.fin=t at hpk hR
 unfold RO TO ag
 refine ao Tryz.func160 rfl (by decide +kernel) (by simp [Tryz.ntmps160]) (veil fun E=>?_)
 simp only [go_sem]
 refine ae E [.bx [101] 0] (TO s.l s.fin) [101] (hpk) rfl rfl ⟨by simp only [go_sem],by first | (rw [aa];decide) | (simp only [go_sem]<;>(try rw [aa])<;>decide)⟩ rfl (by unfold TO ag;simp only [go_sem]) (by unfold TO;simp only [go_sem]) ?_
 rintro _ _ ⟨rfl,rfl⟩
 unfold TO ag
 simp only [go_sem]
 refine ae E [.bx [100] 0] (RO s) [100,101] (ei s) rfl rfl ⟨by simp only [go_sem],by first | (rw [aa];decide) | (simp only [go_sem]<;>(try rw [aa])<;>decide)⟩ rfl (by unfold RO TO ag;simp only [go_sem]) (by unfold RO TO;simp only [go_sem]) ?_
 rintro _ _ ⟨rfl,rfl⟩
 unfold RO TO ag
 simp only [go_sem]
 obtain ⟨a0,s0,hs0⟩:∃ a0 s0,cY ex s=(a0,s0):=⟨_,_,rfl⟩
 have h0:=(hsg s).1
 have hc0:=hc s hl hN
 rw [hs0] at h0 hc0
 unfold exD at hc0
 simp only [hs0] at hR
 refine ar E (fun h1=>?_) (fun h1=>?_)<;>simp only [go_sem]
 ·refine ah E (fun h2=>?_) (fun h2=>?_)<;>simp only [go_sem]
  ·simp only [decide_eq_true h1,decide_eq_true h2,Bool.and_self,if_true] at hR
   refine ae E [.bx [101] 0] (TO s.l s.fin) [101] (il s.l s.fin (by omega)) rfl rfl ⟨by simp only [go_sem],by first | (rw [aa];decide) | (simp only [go_sem]<;>(try rw [aa])<;>decide)⟩ rfl (by unfold TO ag;simp only [go_sem]) (by unfold TO;simp only [go_sem]) ?_
   rintro _ _ ⟨rfl,rfl⟩
   unfold TO ag
   simp only [go_sem]
   refine ak mixed E fun X=>?_
   simp only [go_sem]
   obtain ⟨b0,q1,hq1⟩:∃ b0 q1,cY ex s.next=(b0,q1):=⟨_,_,rfl⟩
   have hn2:=(SS.next s).len
   have g2:=hc s.next (by omega) ((SS.next s).nest.trans hN)
   have h3:=(hsg s.next).1
   rw [hq1] at g2 h3 hR
   unfold exD at g2
   refine cl X [.bx [100] 0] (RO s.next) [100,101] _ _ g2 rfl rfl ⟨by simp only [go_sem],by rw [aa];decide⟩ rfl (by unfold RO TO ag PS.next;simp only [go_sem]) (by unfold RO TO;simp only [go_sem]) (by unfold RO TO;simp only [go_sem]) ?_
   unfold RO TO ag
   simp only [go_sem]
   have ht2:=h3.tr
   have hz2:=h3.sz
   simp only at ht2 hz2 hR
   have h4:=iJ (G:=G) { nd0 13 t.pos with name:=t.s } [b0] rfl (by simp) (by simp only [bl,List.map_cons,List.map_nil,List.sum_cons,List.sum_nil];omega)
    (fun l h=>by rw [List.mem_singleton.1 h];exact ht2.kids.2)
    (fun l h=>by rw [List.mem_singleton.1 h];exact h3.wd.mono (by omega))
   generalize aF { nd0 13 t.pos with name:=t.s } [b0]=J at h4 hR
   unfold exD at h4
   refine b6 X 29 [29] (some 1) [.agg [.sl (some 9) (b0.map enD)]] h4 (fun _=>rfl) rfl rfl rfl (by simp) rfl (by simp only [go_sem]) ?_
   simp only [go_sem]
   refine ⟨by decide +kernel,?_⟩
   rw [← hR]
   refine ⟨_,_,[100,101],id,⟨rfl,rfl⟩,?_⟩
   simp only [go_sem]
   rfl
  ·simp only [decide_eq_true h1,decide_eq_false h2,Bool.and_false,Bool.false_eq_true,if_false] at hR
   refine ae E [.bx [100] 0] (RO s) [100,101] (hc0) rfl rfl ⟨by simp only [go_sem],by first | (rw [aa];decide) | (simp only [go_sem]<;>(try rw [aa])<;>decide)⟩ rfl (by unfold RO TO ag;simp only [go_sem]) (by unfold RO TO;simp only [go_sem]) ?_
   rintro _ _ ⟨rfl,rfl⟩
   unfold RO TO ag
   simp only [go_sem]
   refine aC E (X:={ x:Nat × List EN × PS // gx ex x.1 x.2.1 x.2.2=R∧GP 1 s x.2∧x.2.2.l.length<x.1 }) (fun x=>[(0,.bx [100] 0),(2,.bx [2] 0),(4,.bx [4] 0)])
    (fun x=>[([2],.box [.d .nils]),([4],.box [.d (.sl (some 9) (x.1.2.1.map enD))]),([100],.box [.bx [101] 0,.d (i64 x.1.2.2.err),.d (i64 x.1.2.2.pos),.d (i64 x.1.2.2.nest)]),([101],.box [.d (.sl (some 4) (x.1.2.2.l.map gi)),.d (i64 x.1.2.2.fin)])]) [2,4,100,101] (fun x=>x.1.2.2.l.length) ⟨(s0.l.length.succ,a0,s0),hR,h0,Nat.lt_succ_self _⟩ id ?_ ?_
   ·simp only [go_sem]
    all_goals rfl
   rintro ⟨⟨m,a,q⟩,hb,hg,hm⟩ E0
   refine aO E0 fun Q' hQ E'=>?_
   simp only at hb hg hm ⊢
   have hql:q.l.length≤s.l.length:=hg.ss.len
   obtain ⟨m,rfl⟩:∃ k,m=k+1:=⟨m-1,by omega⟩
   have hgn:=iA hex s 1 a q hg
   rw [gx] at hb
   rw [show gx ex 1 a q=if decide (q.err=0) && q.begins then (aF (nd0 6 (gu a).pos) [a,(cY ex q).1],(cY ex q).2) else (a,q) from rfl] at hgn
   simp only [go_sem]
   refine ae E' [.bx [100] 0] (RO q) [100,101] (ei q) rfl rfl ⟨by simp only [go_sem],by first | (rw [aa];decide) | (simp only [go_sem]<;>(try rw [aa])<;>decide)⟩ rfl (by unfold RO TO ag;simp only [go_sem]) (by unfold RO TO;simp only [go_sem]) ?_
   rintro _ _ ⟨rfl,rfl⟩
   unfold RO TO ag
   simp only [go_sem]
   refine ar E' (fun g1=>?_) (fun g1=>?_)<;>simp only [go_sem]
   ·refine ae E' [.bx [100] 0] (RO q) [100,101] (w1 q (by omega)) rfl rfl ⟨by simp only [go_sem],by first | (rw [aa];decide) | (simp only [go_sem]<;>(try rw [aa])<;>decide)⟩ rfl (by unfold RO TO ag;simp only [go_sem]) (by unfold RO TO;simp only [go_sem]) ?_
    rintro _ _ ⟨rfl,rfl⟩
    unfold RO TO ag
    simp only [go_sem]
    refine aG E' (fun g2=>?_) (fun g2=>?_)<;>simp only [go_sem]
    ·simp only [decide_eq_true g1,g2,Bool.true_and,if_true] at hb hgn
     have hap:=hg.tr.kids.1
     have hz1:=hg.sz
     simp only at hap hz1
     refine ak mixed E' fun X=>?_
     simp only [go_sem]
     rw [ai (n:=(a.length:Int)-1) ⟨by omega,by omega⟩]
     refine ⟨⟨by omega,by omega⟩,?_⟩
     rw [show ((a.length:Int)-1).toNat=a.length-1 by omega,bA (show a.length-1<a.length by omega)]
     have hrt:gu a=ndE a (a.length-1):=rfl
     rw [← hrt]
     generalize gu a=rt at hb hgn ⊢
     simp only [go_sem]
     obtain ⟨b0,q1,hq1⟩:∃ b0 q1,cY ex q=(b0,q1):=⟨_,_,rfl⟩
     have h2:=hc q (by omega) (hg.ss.nest.trans hN)
     have h3:=(hsg q).1
     have hlt:=ko hex g1 g2
     rw [hq1] at h2 h3 hb hgn hlt
     unfold exD at h2
     refine cl X [.bx [100] 0] (RO q) [100,101] _ _ h2 rfl rfl ⟨by simp only [go_sem],by rw [aa];decide⟩ rfl (by unfold RO TO ag;simp only [go_sem]) (by unfold RO TO;simp only [go_sem]) (by unfold RO TO;simp only [go_sem]) ?_
     unfold RO TO ag
     simp only [go_sem]
     have ht2:=h3.tr
     have hz2:=h3.sz
     simp only at ht2 hz2 hlt
     have h4:=iJ (G:=G) (nd0 6 rt.pos) [a,b0] rfl (by simp) (by simp only [bl,List.map_cons,List.map_nil,List.sum_cons,List.sum_nil];omega)
      (fun l h=>by
       rcases List.mem_cons.1 h with rfl | h
       ·exact hg.tr.kids.2
       ·rw [List.mem_singleton.1 h];exact ht2.kids.2)
      (fun l h=>by
       rcases List.mem_cons.1 h with rfl | h
       ·exact hg.wd.mono (by omega)
       ·rw [List.mem_singleton.1 h];exact h3.wd.mono (by omega))
     simp only at hb hgn
     generalize aF (nd0 6 rt.pos) [a,b0]=J at h4 hb hgn
     unfold exD at h4
     refine b6 X 52 [52] (some 1) [.agg [.sl (some 9) (a.map enD)],.agg [.sl (some 9) (b0.map enD)]] h4 (fun _=>rfl) rfl rfl rfl (by simp) rfl (by simp only [go_sem]) ?_
     simp only [go_sem]
     refine ⟨by decide +kernel,?_⟩
     rw [hQ]
     simp only [go_sem]
     refine ⟨⟨(m,J,q1),hb,hgn,by show q1.l.length<m;omega⟩,hlt,id,?_⟩
     simp only [go_sem]
     all_goals rfl
    ·simp only [g2,Bool.and_false,Bool.false_eq_true,if_false] at hb
     subst hb
     rw [hQ]
     simp only [go_sem]
     refine ⟨_,_,[100,101],id,⟨rfl,rfl⟩,?_⟩
     simp only [go_sem]
     rfl
   ·simp only [decide_eq_false g1,Bool.false_and,Bool.false_eq_true,if_false] at hb
    subst hb
    rw [hQ]
    simp only [go_sem]
    refine ⟨_,_,[100,101],id,⟨rfl,rfl⟩,?_⟩
    simp only [go_sem]
    rfl
 ·simp only [decide_eq_false h1,Bool.false_and,Bool.false_eq_true,if_false] at hR
  refine ae E [.bx [100] 0] (RO s) [100,101] (hc0) rfl rfl ⟨by simp only [go_sem],by first | (rw [aa];decide) | (simp only [go_sem]<;>(try rw [aa])<;>decide)⟩ rfl (by unfold RO TO ag;simp only [go_sem]) (by unfold RO TO;simp only [go_sem]) ?_
  rintro _ _ ⟨rfl,rfl⟩
  unfold RO TO ag
  simp only [go_sem]
  refine aC E (X:={ x:Nat × List EN × PS // gx ex x.1 x.2.1 x.2.2=R∧GP 1 s x.2∧x.2.2.l.length<x.1 }) (fun x=>[(0,.bx [100] 0),(2,.bx [2] 0),(4,.bx [4] 0)])
   (fun x=>[([2],.box [.d .nils]),([4],.box [.d (.sl (some 9) (x.1.2.1.map enD))]),([100],.box [.bx [101] 0,.d (i64 x.1.2.2.err),.d (i64 x.1.2.2.pos),.d (i64 x.1.2.2.nest)]),([101],.box [.d (.sl (some 4) (x.1.2.2.l.map gi)),.d (i64 x.1.2.2.fin)])]) [2,4,100,101] (fun x=>x.1.2.2.l.length) ⟨(s0.l.length.succ,a0,s0),hR,h0,Nat.lt_succ_self _⟩ id ?_ ?_
  ·simp only [go_sem]
   all_goals rfl
  rintro ⟨⟨m,a,q⟩,hb,hg,hm⟩ E0
  refine aO E0 fun Q' hQ E'=>?_
  simp only at hb hg hm ⊢
  have hql:q.l.length≤s.l.length:=hg.ss.len
  obtain ⟨m,rfl⟩:∃ k,m=k+1:=⟨m-1,by omega⟩
  have hgn:=iA hex s 1 a q hg
  rw [gx] at hb
  rw [show gx ex 1 a q=if decide (q.err=0) && q.begins then (aF (nd0 6 (gu a).pos) [a,(cY ex q).1],(cY ex q).2) else (a,q) from rfl] at hgn
  simp only [go_sem]
  refine ae E' [.bx [100] 0] (RO q) [100,101] (ei q) rfl rfl ⟨by simp only [go_sem],by first | (rw [aa];decide) | (simp only [go_sem]<;>(try rw [aa])<;>decide)⟩ rfl (by unfold RO TO ag;simp only [go_sem]) (by unfold RO TO;simp only [go_sem]) ?_
  rintro _ _ ⟨rfl,rfl⟩
  unfold RO TO ag
  simp only [go_sem]
  refine ar E' (fun g1=>?_) (fun g1=>?_)<;>simp only [go_sem]
  ·refine ae E' [.bx [100] 0] (RO q) [100,101] (w1 q (by omega)) rfl rfl ⟨by simp only [go_sem],by first | (rw [aa];decide) | (simp only [go_sem]<;>(try rw [aa])<;>decide)⟩ rfl (by unfold RO TO ag;simp only [go_sem]) (by unfold RO TO;simp only [go_sem]) ?_
   rintro _ _ ⟨rfl,rfl⟩
   unfold RO TO ag
   simp only [go_sem]
   refine aG E' (fun g2=>?_) (fun g2=>?_)<;>simp only [go_sem]
   ·simp only [decide_eq_true g1,g2,Bool.true_and,if_true] at hb hgn
    have hap:=hg.tr.kids.1
    have hz1:=hg.sz
    simp only at hap hz1
    refine ak mixed E' fun X=>?_
    simp only [go_sem]
    rw [ai (n:=(a.length:Int)-1) ⟨by omega,by omega⟩]
    refine ⟨⟨by omega,by omega⟩,?_⟩
    rw [show ((a.length:Int)-1).toNat=a.length-1 by omega,bA (show a.length-1<a.length by omega)]
    have hrt:gu a=ndE a (a.length-1):=rfl
    rw [← hrt]
    generalize gu a=rt at hb hgn ⊢
    simp only [go_sem]
    obtain ⟨b0,q1,hq1⟩:∃ b0 q1,cY ex q=(b0,q1):=⟨_,_,rfl⟩
    have h2:=hc q (by omega) (hg.ss.nest.trans hN)
    have h3:=(hsg q).1
    have hlt:=ko hex g1 g2
    rw [hq1] at h2 h3 hb hgn hlt
    unfold exD at h2
    refine cl X [.bx [100] 0] (RO q) [100,101] _ _ h2 rfl rfl ⟨by simp only [go_sem],by rw [aa];decide⟩ rfl (by unfold RO TO ag;simp only [go_sem]) (by unfold RO TO;simp only [go_sem]) (by unfold RO TO;simp only [go_sem]) ?_
    unfold RO TO ag
    simp only [go_sem]
    have ht2:=h3.tr
    have hz2:=h3.sz
    simp only at ht2 hz2 hlt
    have h4:=iJ (G:=G) (nd0 6 rt.pos) [a,b0] rfl (by simp) (by simp only [bl,List.map_cons,List.map_nil,List.sum_cons,List.sum_nil];omega)
     (fun l h=>by
      rcases List.mem_cons.1 h with rfl | h
      ·exact hg.tr.kids.2
      ·rw [List.mem_singleton.1 h];exact ht2.kids.2)
     (fun l h=>by
      rcases List.mem_cons.1 h with rfl | h
      ·exact hg.wd.mono (by omega)
      ·rw [List.mem_singleton.1 h];exact h3.wd.mono (by omega))
    simp only at hb hgn
    generalize aF (nd0 6 rt.pos) [a,b0]=J at h4 hb hgn
    unfold exD at h4
    refine b6 X 52 [52] (some 1) [.agg [.sl (some 9) (a.map enD)],.agg [.sl (some 9) (b0.map enD)]] h4 (fun _=>rfl) rfl rfl rfl (by simp) rfl (by simp only [go_sem]) ?_
    simp only [go_sem]
    refine ⟨by decide +kernel,?_⟩
    rw [hQ]
    simp only [go_sem]
    refine ⟨⟨(m,J,q1),hb,hgn,by show q1.l.length<m;omega⟩,hlt,id,?_⟩
    simp only [go_sem]
    all_goals rfl
   ·simp only [g2,Bool.and_false,Bool.false_eq_true,if_false] at hb
    subst hb
    rw [hQ]
    simp only [go_sem]
    refine ⟨_,_,[100,101],id,⟨rfl,rfl⟩,?_⟩
    simp only [go_sem]
    rfl
  ·simp only [decide_eq_false g1,Bool.false_and,Bool.false_eq_true,if_false] at hb
   subst hb
   rw [hQ]
   simp only [go_sem]
   refine ⟨_,_,[100,101],id,⟨rfl,rfl⟩,?_⟩
   simp only [go_sem]
   rfl
end Go.Proofs.YtejpnabbmgpmaaaGreatDoor

namespace Go.Proofs.YtejpnabbmgpmaaaGreatDoor
open Go.Ab
def qT (f:Nat) (G:List (Nat × Obj)) (N:Nat) (sub:PS→Int→PR):Prop:=∀ (s:PS) (p:Int),s.l.length≤100000→s.nest=N→HCall Tryz.prog G f [.bx [100] 0,.d (i64 p)] (RO s) [100,101] (fun r hp'=>r=.d (exD (sub s p).1)∧hp'=RO (sub s p).2)
theorem FI {G} {N:Nat} {ex:PS→PR} (hex:∀ s,GP 1 s (ex s)) (hc:Reads 34 G N ex):qT 79 G N (ifS ex):=by
 intro s p hl hN
 generalize hR:ifS ex s p=R
 unfold ifS at hR
 have ha:=hex s
 have ca:=hc s hl hN
 obtain ⟨a,sa,ea⟩:∃ a sa,ex s=(a,sa):=⟨_,_,rfl⟩
 rw [ea] at ha ca hR
 have la:=ha.ss.len
 have na:=ha.ss.nest
 have cm:=ek (G:=G) sa 1 nA (by simp only at la;omega) (by decide)
 have hm:=SS.must sa 1 nA
 simp only at hR la na
 generalize sa.must 1 nA=s2 at hR cm hm
 have l2:=hm.len
 have n2:=hm.nest
 have hb:=hex s2
 have cb:=hc s2 (by omega) (by rw [n2,na,hN])
 obtain ⟨b,sb,eb⟩:∃ b sb,ex s2=(b,sb):=⟨_,_,rfl⟩
 rw [eb] at hb cb hR
 have lb:=hb.ss.len
 have nb:=hb.ss.nest
 simp only at hR lb nb
 have cm2:=ek (G:=G) sb 1 mf (by omega) (by decide)
 have hm2:=SS.must sb 1 mf
 generalize sb.must 1 mf=s3 at hR cm2 hm2
 have l3:=hm2.len
 have n3:=hm2.nest
 have hd:=hex s3
 have cd:=hc s3 (by omega) (by rw [n3,nb,n2,na,hN])
 obtain ⟨d,sd,ed⟩:∃ d sd,ex s3=(d,sd):=⟨_,_,rfl⟩
 rw [ed] at hd cd hR
 simp only at hR
 have za:=ha.sz
 have zb:=hb.sz
 have zd:=hd.sz
 simp only at za zb zd
 have h4:=iJ (G:=G) (nd0 9 p) [a,b,d] rfl (by simp) (by simp only [bl,List.map_cons,List.map_nil,List.sum_cons,List.sum_nil];omega)
  (fun l h=>by
   simp only [List.mem_cons,List.mem_singleton,List.not_mem_nil,or_false] at h
   rcases h with rfl | rfl | rfl
   ·exact ha.tr.kids.2
   ·exact hb.tr.kids.2
   ·exact hd.tr.kids.2)
  (fun l h=>by
   simp only [List.mem_cons,List.mem_singleton,List.not_mem_nil,or_false] at h
   rcases h with rfl | rfl | rfl
   ·exact ha.wd.mono (by omega)
   ·exact hb.wd.mono (by omega)
   ·exact hd.wd.mono (by omega))
 generalize aF (nd0 9 p) [a,b,d]=J at h4 hR
 unfold exD at h4 ca cb cd
 subst hR
 unfold RO TO ag
 refine ao Tryz.func79 rfl (by decide +kernel) (by simp [Tryz.ntmps79]) (veil fun E=>?_)
 simp only [go_sem]
 refine ae E [.bx [100] 0] (RO s) [100,101] (ca) rfl rfl ⟨by simp only [go_sem],by first | (rw [aa];decide) | (simp only [go_sem]<;>(try rw [aa])<;>decide)⟩ rfl (by unfold RO TO ag;simp only [go_sem]) (by unfold RO TO;simp only [go_sem]) ?_
 rintro _ _ ⟨rfl,rfl⟩
 unfold RO TO ag
 simp only [go_sem]
 refine ae E [.bx [100] 0,.d (i64 1),.d (.str nA)] (RO sa) [100,101] (cm) rfl rfl ⟨by simp only [go_sem],by first | (rw [aa];decide) | (simp only [go_sem]<;>(try rw [aa])<;>decide)⟩ rfl (by unfold RO TO ag;simp only [go_sem]) (by unfold RO TO;simp only [go_sem]) ?_
 rintro _ _ ⟨rfl,rfl⟩
 unfold RO TO ag
 simp only [go_sem]
 refine ae E [.bx [100] 0] (RO s2) [100,101] (cb) rfl rfl ⟨by simp only [go_sem],by first | (rw [aa];decide) | (simp only [go_sem]<;>(try rw [aa])<;>decide)⟩ rfl (by unfold RO TO ag;simp only [go_sem]) (by unfold RO TO;simp only [go_sem]) ?_
 rintro _ _ ⟨rfl,rfl⟩
 unfold RO TO ag
 simp only [go_sem]
 refine ae E [.bx [100] 0,.d (i64 1),.d (.str mf)] (RO sb) [100,101] (cm2) rfl rfl ⟨by simp only [go_sem],by first | (rw [aa];decide) | (simp only [go_sem]<;>(try rw [aa])<;>decide)⟩ rfl (by unfold RO TO ag;simp only [go_sem]) (by unfold RO TO;simp only [go_sem]) ?_
 rintro _ _ ⟨rfl,rfl⟩
 unfold RO TO ag
 simp only [go_sem]
 refine ak mixed E fun X=>?_
 simp only [go_sem]
 refine cl X [.bx [100] 0] (RO s3) [100,101] _ _ cd rfl rfl ⟨by simp only [go_sem],by rw [aa];decide⟩ rfl (by unfold RO TO ag;simp only [go_sem]) (by unfold RO TO;simp only [go_sem]) (by unfold RO TO;simp only [go_sem]) ?_
 unfold RO TO ag
 simp only [go_sem]
 refine b6 X 21 [21] (some 1) [.agg [.sl (some 9) (a.map enD)],.agg [.sl (some 9) (b.map enD)],.agg [.sl (some 9) (d.map enD)]] h4 (fun _=>rfl) rfl rfl rfl (by simp) rfl (by simp only [go_sem]) ?_
 simp only [go_sem]
 refine ⟨by decide +kernel,?_⟩
 refine ⟨_,_,[100,101],id,⟨rfl,rfl⟩,?_⟩
 simp only [go_sem]
 rfl
end Go.Proofs.YtejpnabbmgpmaaaGreatDoor

namespace Go.Proofs.YtejpnabbmgpmaaaGreatDoor
open Go.Ab
theorem Hf {G} {N:Nat} {ex:PS→PR} (hex:∀ s,GP 1 s (ex s)) (hc:Reads 34 G N ex):qT 78 G N (qV ex):=by
 intro s p hl hN
 generalize hR:qV ex s p=R
 unfold qV at hR
 have cw:=iW (G:=G) s iS (by omega)
 have hw:=SS.may s 1 iS
 obtain ⟨c,hcc⟩:∃ c,c=s.sees 1 iS:=⟨_,rfl⟩
 rw [← hcc] at cw
 simp only [← hcc] at hR
 generalize s.may 1 iS=s1 at hR cw hw
 have l1:=hw.len
 have n1:=hw.nest
 have co:=kL (G:=G) s1 2 (by omega)
 have ho:=SS.of s1 2
 obtain ⟨nm,so,eo⟩:∃ nm so,s1.of 2=(nm,so):=⟨_,_,rfl⟩
 rw [eo] at co ho hR
 simp only at co ho hR
 have lo:=ho.len
 have no:=ho.nest
 have cm:=ek (G:=G) so 7 [61] (by omega) (by decide)
 have hm:=SS.must so 7 [61]
 generalize so.must 7 [61]=s2 at hR cm hm
 have l2:=hm.len
 have n2:=hm.nest
 have cp:=dj (G:=G) s2.l s2.fin (by omega)
 rw [ix] at hR
 generalize bI s2.l s2.fin=t at hR cp
 have ha:=hex s2
 have ca:=hc s2 (by omega) (by rw [n2,no,n1,hN])
 obtain ⟨a,sa,ea⟩:∃ a sa,ex s2=(a,sa):=⟨_,_,rfl⟩
 rw [ea] at ha ca hR
 have la:=ha.ss.len
 have na:=ha.ss.nest
 simp only at hR la na
 have hap:=ha.tr.kids.1
 have za:=ha.sz
 simp only at hap za
 have cf:=nB (G:=G) sa 5 t.pos
 have key:∀ s3:PS,s3.l=sa.l→s3.nest=sa.nest→∀ k:Int,(aF { nd0 k p with name:=nm } [a,(ex (s3.must 1 bIn)).1],(ex (s3.must 1 bIn)).2)=R →
   HCall Tryz.prog G 76 [.bx [100] 0,.d (i64 1),.d (.str bIn)] (RO s3) [100,101] (fun r hp'=>r=.tup []∧hp'=RO (s3.must 1 bIn))∧∃ b sb J,R=(J,sb) ∧
   HCall Tryz.prog G 34 [.bx [100] 0] (RO (s3.must 1 bIn)) [100,101] (fun r hp'=>r=.d (.agg [.sl (some 9) (b.map enD)])∧hp'=RO sb) ∧
   HP Tryz.prog G 77 [ndN { nd0 k p with name:=nm },.sl (some 1) ([a,b].map exD)] (fun r=>r=.d (.agg [.sl (some 9) (J.map enD)])):=by
  intro s3 e1 e2 k hk
  have cm3:=ek (G:=G) s3 1 bIn (by rw [e1];omega) (by decide)
  have hm3:=SS.must s3 1 bIn
  generalize s3.must 1 bIn=s4 at hk cm3 hm3 ⊢
  have l4:=hm3.len
  have n4:=hm3.nest
  rw [e1] at l4
  have hb:=hex s4
  have cb:=hc s4 (by omega) (by rw [n4,e2,na,n2,no,n1,hN])
  obtain ⟨b,sb,eb⟩:∃ b sb,ex s4=(b,sb):=⟨_,_,rfl⟩
  rw [eb] at hb cb hk
  have zb:=hb.sz
  simp only at zb hk
  have h4:=iJ (G:=G) { nd0 k p with name:=nm } [a,b] rfl (by simp) (by simp only [bl,List.map_cons,List.map_nil,List.sum_cons,List.sum_nil];omega)
   (fun l h=>by
    simp only [List.mem_cons,List.mem_singleton,List.not_mem_nil,or_false] at h
    rcases h with rfl | rfl
    ·exact ha.tr.kids.2
    ·exact hb.tr.kids.2)
   (fun l h=>by
    simp only [List.mem_cons,List.mem_singleton,List.not_mem_nil,or_false] at h
    rcases h with rfl | rfl
    ·exact ha.wd.mono (by omega)
    ·exact hb.wd.mono (by omega))
  exact ⟨cm3,b,sb,_,hk.symm,cb,h4⟩
 unfold exD at ca
 unfold RO TO ag
 refine ao Tryz.func78 rfl (by decide +kernel) (by simp [Tryz.ntmps78]) (veil fun E=>?_)
 simp only [go_sem]
 refine ae E [.bx [100] 0,.d (.str iS)] (RO s) [100,101] (cw) rfl rfl ⟨by simp only [go_sem],by first | (rw [aa];decide) | (simp only [go_sem]<;>(try rw [aa])<;>decide)⟩ rfl (by unfold RO TO ag;simp only [go_sem]) (by unfold RO TO;simp only [go_sem]) ?_
 rintro _ _ ⟨rfl,rfl⟩
 unfold RO TO ag
 simp only [go_sem]
 refine aG E (fun g=>?_) (fun g=>?_)<;>simp only [go_sem]
 ·rw [if_pos g] at hR
  refine ae E [.bx [100] 0,.d (i64 2)] (RO s1) [100,101] (co) rfl rfl ⟨by simp only [go_sem],by first | (rw [aa];decide) | (simp only [go_sem]<;>(try rw [aa])<;>decide)⟩ rfl (by unfold RO TO ag;simp only [go_sem]) (by unfold RO TO;simp only [go_sem]) ?_
  rintro _ _ ⟨rfl,rfl⟩
  unfold RO TO ag
  simp only [go_sem]
  refine ae E [.bx [100] 0,.d (i64 7),.d (.str [61])] (RO so) [100,101] (cm) rfl rfl ⟨by simp only [go_sem],by first | (rw [aa];decide) | (simp only [go_sem]<;>(try rw [aa])<;>decide)⟩ rfl (by unfold RO TO ag;simp only [go_sem]) (by unfold RO TO;simp only [go_sem]) ?_
  rintro _ _ ⟨rfl,rfl⟩
  unfold RO TO ag
  simp only [go_sem]
  refine ae E [.bx [101] 0] (TO s2.l s2.fin) [101] (cp) rfl rfl ⟨by simp only [go_sem],by first | (rw [aa];decide) | (simp only [go_sem]<;>(try rw [aa])<;>decide)⟩ rfl (by unfold TO ag;simp only [go_sem]) (by unfold TO;simp only [go_sem]) ?_
  rintro _ _ ⟨rfl,rfl⟩
  unfold TO ag
  simp only [go_sem]
  refine ae E [.bx [100] 0] (RO s2) [100,101] (ca) rfl rfl ⟨by simp only [go_sem],by first | (rw [aa];decide) | (simp only [go_sem]<;>(try rw [aa])<;>decide)⟩ rfl (by unfold RO TO ag;simp only [go_sem]) (by unfold RO TO;simp only [go_sem]) ?_
  rintro _ _ ⟨rfl,rfl⟩
  unfold RO TO ag
  simp only [go_sem]
  rw [ai (n:=(a.length:Int)-1) ⟨by omega,by omega⟩]
  refine ⟨⟨by omega,by omega⟩,?_⟩
  rw [show ((a.length:Int)-1).toNat=a.length-1 by omega,bA (show a.length-1<a.length by omega)]
  have hrt:gu a=ndE a (a.length-1):=rfl
  rw [← hrt]
  simp only [go_sem]
  refine ah E (fun h=>?_) (fun h=>?_)<;>simp only [go_sem]
  ·rw [if_pos ⟨rfl,h⟩] at hR
   refine ae E [.bx [100] 0,.d (i64 5),.d (i64 t.pos)] (RO sa) [100,101] (cf) rfl rfl ⟨by simp only [go_sem],by first | (rw [aa];decide) | (simp only [go_sem]<;>(try rw [aa])<;>decide)⟩ rfl (by unfold RO TO ag;simp only [go_sem]) (by unfold RO TO;simp only [go_sem]) ?_
   rintro _ _ ⟨rfl,rfl⟩
   unfold RO TO ag
   simp only [go_sem]
   obtain ⟨k1,b,sb,J,eR,k2,k3⟩:=key (sa.fail 5 t.pos) (mS _ _ _) (by unfold PS.fail;split<;>rfl) 8 hR
   subst eR
   refine ae E [.bx [100] 0,.d (i64 1),.d (.str bIn)] (RO (sa.fail 5 t.pos)) [100,101] (k1) rfl rfl ⟨by simp only [go_sem],by first | (rw [aa];decide) | (simp only [go_sem]<;>(try rw [aa])<;>decide)⟩ rfl (by unfold RO TO ag;simp only [go_sem]) (by unfold RO TO;simp only [go_sem]) ?_
   rintro _ _ ⟨rfl,rfl⟩
   unfold RO TO ag
   simp only [go_sem]
   refine ak mixed E fun X=>?_
   simp only [go_sem]
   refine cl X [.bx [100] 0] (RO ((sa.fail 5 t.pos).must 1 bIn)) [100,101] _ _ k2 rfl rfl ⟨by simp only [go_sem],by rw [aa];decide⟩ rfl (by unfold RO TO ag;simp only [go_sem]) (by unfold RO TO;simp only [go_sem]) (by unfold RO TO;simp only [go_sem]) ?_
   unfold RO TO ag
   simp only [go_sem]
   refine b6 X 50 [50] (some 1) [.agg [.sl (some 9) (a.map enD)],.agg [.sl (some 9) (b.map enD)]] k3 (fun _=>rfl) rfl rfl rfl (by simp) rfl (by simp only [go_sem]) ?_
   simp only [go_sem]
   refine ⟨by decide +kernel,?_⟩
   refine ⟨_,_,[100,101],id,⟨rfl,rfl⟩,?_⟩
   simp only [go_sem]
   rfl
  ·rw [if_neg (fun q=>h q.2)] at hR
   obtain ⟨k1,b,sb,J,eR,k2,k3⟩:=key sa rfl rfl 8 hR
   subst eR
   refine ae E [.bx [100] 0,.d (i64 1),.d (.str bIn)] (RO sa) [100,101] (k1) rfl rfl ⟨by simp only [go_sem],by first | (rw [aa];decide) | (simp only [go_sem]<;>(try rw [aa])<;>decide)⟩ rfl (by unfold RO TO ag;simp only [go_sem]) (by unfold RO TO;simp only [go_sem]) ?_
   rintro _ _ ⟨rfl,rfl⟩
   unfold RO TO ag
   simp only [go_sem]
   refine ak mixed E fun X=>?_
   simp only [go_sem]
   refine cl X [.bx [100] 0] (RO (sa.must 1 bIn)) [100,101] _ _ k2 rfl rfl ⟨by simp only [go_sem],by rw [aa];decide⟩ rfl (by unfold RO TO ag;simp only [go_sem]) (by unfold RO TO;simp only [go_sem]) (by unfold RO TO;simp only [go_sem]) ?_
   unfold RO TO ag
   simp only [go_sem]
   refine b6 X 50 [50] (some 1) [.agg [.sl (some 9) (a.map enD)],.agg [.sl (some 9) (b.map enD)]] k3 (fun _=>rfl) rfl rfl rfl (by simp) rfl (by simp only [go_sem]) ?_
   simp only [go_sem]
   refine ⟨by decide +kernel,?_⟩
   refine ⟨_,_,[100,101],id,⟨rfl,rfl⟩,?_⟩
   simp only [go_sem]
   rfl
 ·rw [if_neg (by rw [g];decide)] at hR
  refine ae E [.bx [100] 0,.d (i64 2)] (RO s1) [100,101] (co) rfl rfl ⟨by simp only [go_sem],by first | (rw [aa];decide) | (simp only [go_sem]<;>(try rw [aa])<;>decide)⟩ rfl (by unfold RO TO ag;simp only [go_sem]) (by unfold RO TO;simp only [go_sem]) ?_
  rintro _ _ ⟨rfl,rfl⟩
  unfold RO TO ag
  simp only [go_sem]
  refine ae E [.bx [100] 0,.d (i64 7),.d (.str [61])] (RO so) [100,101] (cm) rfl rfl ⟨by simp only [go_sem],by first | (rw [aa];decide) | (simp only [go_sem]<;>(try rw [aa])<;>decide)⟩ rfl (by unfold RO TO ag;simp only [go_sem]) (by unfold RO TO;simp only [go_sem]) ?_
  rintro _ _ ⟨rfl,rfl⟩
  unfold RO TO ag
  simp only [go_sem]
  refine ae E [.bx [101] 0] (TO s2.l s2.fin) [101] (cp) rfl rfl ⟨by simp only [go_sem],by first | (rw [aa];decide) | (simp only [go_sem]<;>(try rw [aa])<;>decide)⟩ rfl (by unfold TO ag;simp only [go_sem]) (by unfold TO;simp only [go_sem]) ?_
  rintro _ _ ⟨rfl,rfl⟩
  unfold TO ag
  simp only [go_sem]
  refine ae E [.bx [100] 0] (RO s2) [100,101] (ca) rfl rfl ⟨by simp only [go_sem],by first | (rw [aa];decide) | (simp only [go_sem]<;>(try rw [aa])<;>decide)⟩ rfl (by unfold RO TO ag;simp only [go_sem]) (by unfold RO TO;simp only [go_sem]) ?_
  rintro _ _ ⟨rfl,rfl⟩
  unfold RO TO ag
  simp only [go_sem]
  rw [if_neg (fun q=>absurd q.1 (by decide))] at hR
  obtain ⟨k1,b,sb,J,eR,k2,k3⟩:=key sa rfl rfl 7 hR
  subst eR
  refine ae E [.bx [100] 0,.d (i64 1),.d (.str bIn)] (RO sa) [100,101] (k1) rfl rfl ⟨by simp only [go_sem],by first | (rw [aa];decide) | (simp only [go_sem]<;>(try rw [aa])<;>decide)⟩ rfl (by unfold RO TO ag;simp only [go_sem]) (by unfold RO TO;simp only [go_sem]) ?_
  rintro _ _ ⟨rfl,rfl⟩
  unfold RO TO ag
  simp only [go_sem]
  refine ak mixed E fun X=>?_
  simp only [go_sem]
  refine cl X [.bx [100] 0] (RO (sa.must 1 bIn)) [100,101] _ _ k2 rfl rfl ⟨by simp only [go_sem],by rw [aa];decide⟩ rfl (by unfold RO TO ag;simp only [go_sem]) (by unfold RO TO;simp only [go_sem]) (by unfold RO TO;simp only [go_sem]) ?_
  unfold RO TO ag
  simp only [go_sem]
  refine b6 X 50 [50] (some 1) [.agg [.sl (some 9) (a.map enD)],.agg [.sl (some 9) (b.map enD)]] k3 (fun _=>rfl) rfl rfl rfl (by simp) rfl (by simp only [go_sem]) ?_
  simp only [go_sem]
  refine ⟨by decide +kernel,?_⟩
  refine ⟨_,_,[100,101],id,⟨rfl,rfl⟩,?_⟩
  simp only [go_sem]
  rfl
end Go.Proofs.YtejpnabbmgpmaaaGreatDoor

namespace Go.Proofs.YtejpnabbmgpmaaaGreatDoor
open Go.Ab
theorem iB {α:Type} {l:List α} {p:α→Bool} {i:Nat} (h:i<l.length) (ha:(l.take i).any p=false) (hb:p l[i]=false):(l.take (i+1)).any p=false:=by
 rw [List.take_succ_eq_append_getElem h,List.any_append,ha]
 simp [hb]
theorem G2 {l:List EF} {i:Nat} (h:i<l.length):(l.map fD).getD i .nilp=.agg [.str l[i].nm,.str l[i].var,i64 l[i].to]:=by simp [h,fD]
theorem EO {G} (l:List EF) (p:EF→Bool) (f:Nat) (caps:List D) (hl:l.length≤1000000) (hc:∀ x∈l,HP Tryz.prog G f (fD x::caps) (fun r=>r=.d (.bool (p x)))) :
  HP Tryz.prog G 148 [.sl (some 3) (l.map fD),.clo f caps] (fun r=>∃ z:Int,r=.d (i64 z)∧decide (0≤z)=l.any p):=by
 have hget:∀ {i:Nat} (h:i<l.length),(l.map fD).getD i .nilp=.agg [.str l[i].nm,.str l[i].var,i64 l[i].to]:=fun h=>G2 h
 refine aj Tryz.func148 rfl (by decide +kernel) (by simp [Tryz.ntmps148]) (veil fun E=>?_)
 simp only [go_sem]
 refine dp E (X:={ i:Nat // i≤l.length∧(l.take i).any p=false }) (fun x=>[(0,.d (.sl (some 3) (l.map fD))),(1,.d (.clo f caps)),(6,.d (.sl (some 3) (l.map fD))),(7,.d (i64 l.length)),(8,.d (i64 x.1))]) (fun x=>l.length-x.1) rfl ⟨0,Nat.zero_le _,by simp⟩ ?_ ?_
 ·simp only [go_sem]
  all_goals rfl
 rintro ⟨i,hi,hab⟩ E'
 simp only [go_sem]
 refine ah E' (fun h1=>?_) (fun h1=>?_)<;>simp only [go_sem]
 ·have h1':i<l.length:=by omega
  refine ⟨⟨by omega,by omega⟩,?_⟩
  rw [hget h1']
  simp only [go_sem]
  refine lE E' (hc l[i] (List.getElem_mem h1')) rfl rfl (by simp) ?_
  rintro _ rfl
  simp only [go_sem]
  refine aG E' (fun h2=>?_) (fun h2=>?_)<;>simp only [go_sem]
  ·refine ⟨_,rfl,?_⟩
   have:l.any p=true:=List.any_eq_true.2 ⟨l[i],List.getElem_mem h1',h2⟩
   rw [this]
   exact decide_eq_true (Int.natCast_nonneg _)
  ·refine ⟨⟨i+1,by omega,iB h1' hab h2⟩,by show l.length-(i+1)<_;omega,?_⟩
   rw [ai ⟨by omega,by omega⟩];rfl
 ·have h3:i=l.length:=by omega
  subst h3
  rw [List.take_length] at hab
  refine ⟨_,rfl,?_⟩
  rw [hab]
  decide
theorem wM {G} (l:List EF) (p:EF→Bool) (f:Nat) (caps:List D) (hl:l.length≤1000000) (hc:∀ x∈l,HP Tryz.prog G f (fD x::caps) (fun r=>r=.d (.bool (p x)))) :
  HP Tryz.prog G 120 [.sl (some 3) (l.map fD),.clo f caps] (fun r=>r=.d (.bool (l.any p))):=by
 refine aj Tryz.func120 rfl (by decide +kernel) (by simp [Tryz.ntmps120]) (veil fun E=>?_)
 simp only [go_sem]
 refine ab E (EO l p f caps hl hc) rfl rfl (by simp) ?_
 rintro _ ⟨z,rfl,hz⟩
 simp only [go_sem]
 rw [hz]
theorem EU {G} (x:EF) (t:Tok):HP Tryz.prog G 187 [fD x,.ptr (gi t)] (fun r=>r=.d (.bool (decide (x.nm=t.s)))):=by
 unfold fD
 rw [show gi t=.agg [i64 t.k,.str t.s,i64 t.n,i64 t.pos] from rfl]
 refine aL Tryz.func187 rfl (by decide +kernel) (by simp [Tryz.ntmps187]) (veil fun E=>?_)
 simp only [go_sem]
 refine ⟨[],?_⟩
 simp only [go_sem]
 by_cases h:x.nm=t.s<;>simp [h]
end Go.Proofs.YtejpnabbmgpmaaaGreatDoor

namespace Go.Proofs.YtejpnabbmgpmaaaGreatDoor
open Go.Ab
theorem EV {G} (l:List Int) (p:Int→Bool) (f:Nat) (caps:List D) (hl:l.length≤1000000) (hc:∀ x∈l,HP Tryz.prog G f (i64 x::caps) (fun r=>r=.d (.bool (p x)))) :
  HP Tryz.prog G 107 [.sl none (l.map i64),.clo f caps] (fun r=>∃ z:Int,r=.d (i64 z)∧decide (0≤z)=l.any p):=by
 have hget:∀ {i:Nat} (h:i<l.length),(l.map i64).getD i .nilp=i64 l[i]:=fun h=>by simp [h]
 refine aj Tryz.func107 rfl (by decide +kernel) (by simp [Tryz.ntmps107]) (veil fun E=>?_)
 simp only [go_sem]
 refine dp E (X:={ i:Nat // i≤l.length∧(l.take i).any p=false }) (fun x=>[(0,.d (.sl none (l.map i64))),(1,.d (.clo f caps)),(6,.d (.sl none (l.map i64))),(7,.d (i64 l.length)),(8,.d (i64 x.1))]) (fun x=>l.length-x.1) rfl ⟨0,Nat.zero_le _,by simp⟩ ?_ ?_
 ·simp only [go_sem]
  all_goals rfl
 rintro ⟨i,hi,hab⟩ E'
 simp only [go_sem]
 refine ah E' (fun h1=>?_) (fun h1=>?_)<;>simp only [go_sem]
 ·have h1':i<l.length:=by omega
  refine ⟨⟨by omega,by omega⟩,?_⟩
  rw [hget h1']
  simp only [go_sem]
  refine lE E' (hc l[i] (List.getElem_mem h1')) rfl rfl (by simp) ?_
  rintro _ rfl
  simp only [go_sem]
  refine aG E' (fun h2=>?_) (fun h2=>?_)<;>simp only [go_sem]
  ·refine ⟨_,rfl,?_⟩
   have:l.any p=true:=List.any_eq_true.2 ⟨l[i],List.getElem_mem h1',h2⟩
   rw [this]
   exact decide_eq_true (Int.natCast_nonneg _)
  ·refine ⟨⟨i+1,by omega,iB h1' hab h2⟩,by show l.length-(i+1)<_;omega,?_⟩
   rw [ai ⟨by omega,by omega⟩];rfl
 ·have h3:i=l.length:=by omega
  subst h3
  rw [List.take_length] at hab
  refine ⟨_,rfl,?_⟩
  rw [hab]
  decide
theorem He {G} (l:List Int) (p:Int→Bool) (f:Nat) (caps:List D) (hl:l.length≤1000000) (hc:∀ x∈l,HP Tryz.prog G f (i64 x::caps) (fun r=>r=.d (.bool (p x)))) :
  HP Tryz.prog G 56 [.sl none (l.map i64),.clo f caps] (fun r=>r=.d (.bool (l.any p))):=by
 refine aj Tryz.func56 rfl (by decide +kernel) (by simp [Tryz.ntmps56]) (veil fun E=>?_)
 simp only [go_sem]
 refine ab E (EV l p f caps hl hc) rfl rfl (by simp) ?_
 rintro _ ⟨z,rfl,hz⟩
 simp only [go_sem]
 rw [hz]
theorem FP {G} (k:Int):HP Tryz.prog G 57 [i64 k] (fun r=>r=.d (.bool (!decide (k=1)))):=by
 refine aj Tryz.func57 rfl (by decide +kernel) (by simp [Tryz.ntmps57]) (veil fun E=>?_)
 simp only [go_sem]
 by_cases h:k=1<;>simp [h]
theorem EJ {G} (l:List EN) (p:EN→Bool) (f:Nat) (caps:List D) (hl:l.length≤1000000) (hc:∀ x∈l,HP Tryz.prog G f (enD x::caps) (fun r=>r=.d (.bool (p x)))) :
  HP Tryz.prog G 118 [.sl (some 9) (l.map enD),.clo f caps] (fun r=>∃ z:Int,r=.d (i64 z)∧decide (0≤z)=l.any p):=by
 have hget:∀ {i:Nat} (h:i<l.length),(l.map enD).getD i .nilp=.agg [i64 l[i].k,i64 l[i].a,i64 l[i].b,i64 l[i].c,i64 l[i].n,.str l[i].name,.str l[i].s,.sl (some 3) (l[i].l.map fD),i64 l[i].pos]:=fun h=>by simp [h,enD,efD]
 refine aj Tryz.func118 rfl (by decide +kernel) (by simp [Tryz.ntmps118]) (veil fun E=>?_)
 simp only [go_sem]
 refine dp E (X:={ i:Nat // i≤l.length∧(l.take i).any p=false }) (fun x=>[(0,.d (.sl (some 9) (l.map enD))),(1,.d (.clo f caps)),(6,.d (.sl (some 9) (l.map enD))),(7,.d (i64 l.length)),(8,.d (i64 x.1))]) (fun x=>l.length-x.1) rfl ⟨0,Nat.zero_le _,by simp⟩ ?_ ?_
 ·simp only [go_sem]
  all_goals rfl
 rintro ⟨i,hi,hab⟩ E'
 simp only [go_sem]
 refine ah E' (fun h1=>?_) (fun h1=>?_)<;>simp only [go_sem]
 ·have h1':i<l.length:=by omega
  refine ⟨⟨by omega,by omega⟩,?_⟩
  rw [hget h1']
  simp only [go_sem]
  refine lE E' (hc l[i] (List.getElem_mem h1')) rfl rfl (by simp) ?_
  rintro _ rfl
  simp only [go_sem]
  refine aG E' (fun h2=>?_) (fun h2=>?_)<;>simp only [go_sem]
  ·refine ⟨_,rfl,?_⟩
   have:l.any p=true:=List.any_eq_true.2 ⟨l[i],List.getElem_mem h1',h2⟩
   rw [this]
   exact decide_eq_true (Int.natCast_nonneg _)
  ·refine ⟨⟨i+1,by omega,iB h1' hab h2⟩,by show l.length-(i+1)<_;omega,?_⟩
   rw [ai ⟨by omega,by omega⟩];rfl
 ·have h3:i=l.length:=by omega
  subst h3
  rw [List.take_length] at hab
  refine ⟨_,rfl,?_⟩
  rw [hab]
  decide
theorem F7 {G} (l:List EN) (p:EN→Bool) (f:Nat) (caps:List D) (hl:l.length≤1000000) (hc:∀ x∈l,HP Tryz.prog G f (enD x::caps) (fun r=>r=.d (.bool (p x)))) :
  HP Tryz.prog G 81 [.sl (some 9) (l.map enD),.clo f caps] (fun r=>r=.d (.bool (l.any p))):=by
 refine aj Tryz.func81 rfl (by decide +kernel) (by simp [Tryz.ntmps81]) (veil fun E=>?_)
 simp only [go_sem]
 refine ab E (EJ l p f caps hl hc) rfl rfl (by simp) ?_
 rintro _ ⟨z,rfl,hz⟩
 simp only [go_sem]
 rw [hz]
theorem Gj {G} (n:EN):HP Tryz.prog G 82 [enD n] (fun r=>r=.d (.bool (decide (1048576<n.pos)))):=by
 unfold enD efD
 refine aj Tryz.func82 rfl (by decide +kernel) (by simp [Tryz.ntmps82]) (veil fun E=>?_)
 simp only [go_sem]
def bH (ns:List EN) (i:Nat):List Int:=eA (ns.take i) []
theorem o6 (n:EN):∀ (a:List EN) (d:List Int),eA (a++[n]) d=eA a d++[uu (eA a d) n]
 | [],_=>rfl
 | _::r,_=>o6 n r _
theorem kE {ns:List EN} {i:Nat} (h:i<ns.length):bH ns (i+1)=bH ns i++[uu (bH ns i) (ndE ns i)]:=by
 unfold bH
 rw [List.take_succ_eq_append_getElem h,o6,bX h]
def mx (d:List Int) (ks:List Int):Int:=ks.foldl (fun m k=>max m (d.getD k.toNat 0)) 0
theorem wE (d ks:List Int) (k:Int):mx d (ks++[k])=max (mx d ks) (d.getD k.toNat 0):=by simp [mx]
theorem qM (d:List Int) (n:EN):uu d n=mx d (an n)+1:=rfl
theorem Cw {d:List Int} {M:Nat} (h:Bd M d) (ks:List Int):0≤mx d ks∧mx d ks≤(M:Int):=by
 suffices g:∀ (ks:List Int) (m:Int),0≤m∧m≤(M:Int)→0≤ks.foldl (fun m k=>max m (d.getD k.toNat 0)) m∧ks.foldl (fun m k=>max m (d.getD k.toNat 0)) m≤(M:Int) from g ks 0 ⟨Int.le_refl 0,by omega⟩
 intro ks
 induction ks with
 | nil=>exact fun m h=>h
 | cons k r ih =>
   intro m hm
   have:=h.get k.toNat
   exact ih (max m (d.getD k.toNat 0)) ⟨by omega,by omega⟩
theorem dq {ns:List EN}:∀ {i:Nat},i≤ns.length→(bH ns i).length=i∧Bd i (bH ns i)
 | 0,_=>by simp [bH,eA,Bd]
 | i+1,h=>by
   obtain ⟨h1,h2⟩:=dq (ns:=ns) (i:=i) (by omega)
   rw [kE (by omega)]
   refine ⟨by simp [h1],fun c hc=>?_⟩
   rcases List.mem_append.1 hc with hc | hc
   ·have:=h2 c hc;omega
   ·rw [List.mem_singleton.1 hc,qM]
    have:=Cw h2 (an (ndE ns i))
    omega
def dk (ns:List EN) (i:Nat) (m:Int):List Int:=bH ns i++m::List.replicate (ns.length-i-1) 0
theorem jQ {ns:List EN} {i:Nat} (hi:i<ns.length) (m:Int):(dk ns i m).getD i 0=m:=by
 have:=(dq (ns:=ns) (i:=i) (by omega)).1
 unfold dk
 rw [List.getD_eq_getElem?_getD,List.getElem?_append_right (by omega),this,Nat.sub_self]
 rfl
theorem tj {ns:List EN} {i k:Nat} (hi:i≤ns.length) (m:Int) (hk:k<i):(dk ns i m).getD k 0=(bH ns i).getD k 0:=by
 have:=(dq (ns:=ns) (i:=i) hi).1
 unfold dk
 rw [List.getD_eq_getElem?_getD,List.getD_eq_getElem?_getD,List.getElem?_append_left (by omega)]
theorem jj {ns:List EN} {i:Nat} (hi:i<ns.length) (m x:Int):(dk ns i m).set i x=dk ns i x:=by
 have:=(dq (ns:=ns) (i:=i) (by omega)).1
 unfold dk
 rw [List.set_append_right _ _ (by omega),this,Nat.sub_self]
 rfl
theorem rz {ns:List EN} {i:Nat} (hi:i<ns.length) (m:Int):(dk ns i m).length=ns.length:=by
 have:=(dq (ns:=ns) (i:=i) (by omega)).1
 unfold dk
 simp only [List.length_append,List.length_cons,List.length_replicate]
 omega
theorem yD {ns:List EN} {i:Nat} (hi:i+1<ns.length):dk ns i (uu (bH ns i) (ndE ns i))=dk ns (i+1) 0:=by
 unfold dk
 rw [kE (by omega),List.append_assoc,show ns.length-i-1=ns.length-(i+1)-1+1 by omega,List.replicate_succ]
 rfl
theorem BF {ns:List EN} {i:Nat} (hi:i+1=ns.length):dk ns i (uu (bH ns i) (ndE ns i))=eA ns []:=by
 have h1:=kE (ns:=ns) (i:=i) (by omega)
 have h2:bH ns (i+1)=eA ns []:=by unfold bH;rw [hi,List.take_length]
 rw [← h2,h1]
 unfold dk
 rw [show ns.length-i-1=0 by omega]
 rfl
def gC (ns:List EN) (i:Nat):List Int:=if i<ns.length then dk ns i 0 else eA ns []
theorem oE (ns:List EN):gC ns 0=List.replicate ns.length 0:=by
 unfold gC
 split
 ·rename_i h
  unfold dk bH
  rw [List.take_zero,show ns.length=(ns.length-0-1)+1 by omega,List.replicate_succ]
  simp [eA]
 ·rename_i h
  have:ns=[]:=List.length_eq_zero_iff.1 (by omega)
  subst this
  rfl
theorem oX {ns:List EN} {i:Nat} (hi:i<ns.length):dk ns i (uu (bH ns i) (ndE ns i))=gC ns (i+1):=by
 unfold gC
 split
 ·rename_i h;exact yD h
 ·exact BF (by omega)
theorem zo (a b:Int):(if a > b then a else b)=max b a:=by split<;>omega
theorem Gz {G} (ns:List EN) (hn:ns.length≤1000000) (hs:∀ n∈ns,n.l.length≤1000000) (hk:∀ i,i<ns.length→(an (ndE ns i)).all (inB i)=true) :
  HP Tryz.prog G 58 [exD ns] (fun r=>r=.d (.sl none ((eA ns []).map i64))):=by
 unfold exD
 refine aL Tryz.func58 rfl (by decide +kernel) (by simp [Tryz.ntmps58]) (veil fun E=>?_)
 simp only [go_sem]
 refine ⟨⟨by omega,by omega,by omega,by omega⟩,?_⟩
 refine cI E (X:={ i:Nat // i≤ns.length }) (fun x=>[(1,.bx [1] 0),(2,.d .nils),(3,.vw [11] 0 ns.length),(13,.d (.sl (some 9) (ns.map enD))),(14,.d (i64 ns.length)),(15,.d (i64 x.1))])
  (fun x=>[([1],.box [.d (.sl (some 9) (ns.map enD))]),([11],.arr none ((gC ns x.1).map i64))]) [11,1] (fun x=>ns.length-x.1) ⟨0,Nat.zero_le _⟩ ?_ ?_
 ·rw [oE,List.map_replicate]
  simp only [go_sem]
  all_goals rfl
 rintro ⟨i,hi⟩ E0
 refine aO E0 fun Q' hQ E'=>?_
 simp only at hi ⊢
 simp only [go_sem]
 refine ah E' (fun g1=>?_) (fun g1=>?_)<;>simp only [go_sem]
 ·have hi':i<ns.length:=by omega
  refine ⟨⟨by omega,by omega⟩,?_⟩
  have hg:=bA hi'
  have hst:=oX hi'
  rw [qM] at hst
  have hki:=hk i hi'
  have hsi:=hs _ (by rw [bX hi'];exact List.getElem_mem hi':ndE ns i∈ns)
  obtain ⟨n,hne⟩:∃ n,n=ndE ns i:=⟨_,rfl⟩
  rw [← hne] at hg hst hki hsi
  rw [show gC ns i=dk ns i 0 by unfold gC;rw [if_pos hi'],hg]
  obtain ⟨hd1,hd2⟩:=dq (ns:=ns) (i:=i) hi
  have hkc:=nZ (G:=G) n hsi
  obtain ⟨K,hK⟩:∃ K,K=an n:=⟨_,rfl⟩
  have hKl:K.length≤1000003:=by rw [hK,dn];unfold cj;have:=cG n.k;split<;>omega
  rw [← hK] at hkc hki hst
  simp only [go_sem]
  refine ae E' [.d (enD n)] [] [] hkc rfl rfl ⟨by simp only [go_sem],by rw [aa];decide⟩ rfl (by simp only [go_sem]) (by simp only [go_sem]) ?_
  rintro _ _ ⟨rfl,rfl⟩
  simp only [go_sem]
  refine j3 E' [21,0] none (K.map i64) rfl ?_
  simp only [go_sem]
  refine cI E' (X:={ q:Nat // q≤K.length }) (fun x=>[(1,.bx [1] 0),(2,.d .nils),(3,.vw [11] 0 ns.length),(4,.d (i64 i)),(5,.bx [5] 0),(13,.d (.sl (some 9) (ns.map enD))),(14,.d (i64 ns.length)),(15,.d (i64 i)),(21,.d (.sl none (K.map i64))),(22,.d (i64 K.length)),(23,.d (i64 x.1))])
   (fun x=>[([1],.box [.d (.sl (some 9) (ns.map enD))]),([11],.arr none ((dk ns i (mx (bH ns i) (K.take x.1))).map i64)),([5],.box [.d (i64 n.k),.d (i64 n.a),.d (i64 n.b),.d (i64 n.c),.d (i64 n.n),.d (.str n.name),.d (.str n.s),.d (.sl (some 3) (n.l.map fD)),.d (i64 n.pos)])]) [5,11,1] (fun x=>K.length-x.1) ⟨0,Nat.zero_le _⟩ ?_ ?_
  ·simp only [go_sem]
   all_goals rfl
  rintro ⟨q,hq⟩ E2
  refine aO E2 fun Q2 hQ2 E3=>?_
  simp only at hq ⊢
  have hal:=rz hi' (mx (bH ns i) (K.take q))
  have hmb:=Cw hd2 (K.take q)
  simp only [go_sem]
  refine ah E3 (fun g2=>?_) (fun g2=>?_)<;>simp only [go_sem]
  ·have hq':q<K.length:=by omega
   have hkq:0≤K[q]∧K[q]<(i:Int):=by
    have:=List.all_eq_true.1 hki K[q] (List.getElem_mem hq')
    simpa [inB] using this
   refine ⟨⟨by omega,by omega⟩,?_⟩
   rw [aR hq',show K.getD q 0=K[q] by simp [hq']]
   simp only [go_sem]
   refine ak mixed E3 fun X=>?_
   simp only [go_sem]
   refine ⟨⟨by omega,by omega⟩,?_⟩
   rw [aR (by omega),jQ hi']
   simp only [go_sem]
   refine ⟨⟨by omega,by omega⟩,?_⟩
   rw [aR (by omega),tj hi _ (show K[q].toNat<i by omega)]
   simp only [go_sem]
   refine ⟨⟨by omega,by omega⟩,by decide +kernel,?_⟩
   rw [ai (n:=(q:Int)+1) ⟨by omega,by omega⟩]
   rw [show (List.map i64 (dk ns i (mx (bH ns i) (K.take q)))).set i (.int .i64 (if (bH ns i).getD K[q].toNat 0 > mx (bH ns i) (K.take q) then (bH ns i).getD K[q].toNat 0 else mx (bH ns i) (K.take q)))=(dk ns i (mx (bH ns i) (K.take (q+1)))).map i64 by
    rw [List.take_succ_eq_append_getElem hq',wE,zo,← List.map_set,jj hi']]
   rw [hQ2]
   simp only [go_sem]
   refine ⟨⟨q+1,by omega⟩,by show K.length-(q+1)<_;omega,?_⟩
   first | rfl | exact ⟨rfl,rfl⟩
  ·rw [hQ2]
   have h3:q=K.length:=by omega
   subst h3
   rw [List.take_length] at *
   simp only [go_sem]
   refine ⟨⟨by omega,by omega⟩,?_⟩
   rw [aR (by omega),jQ hi']
   simp only [go_sem]
   refine ⟨⟨by omega,by omega⟩,?_⟩
   rw [ai (n:=mx (bH ns i) K+1) ⟨by omega,by omega⟩,ai (n:=(i:Int)+1) ⟨by omega,by omega⟩]
   rw [show (List.map i64 (dk ns i (mx (bH ns i) K))).set i (.int .i64 (mx (bH ns i) K+1))=(gC ns (i+1)).map i64 by
    rw [← hst,← List.map_set,jj hi']]
   rw [hQ]
   simp only [go_sem]
   refine ⟨⟨i+1,by omega⟩,by show ns.length-(i+1)<_;omega,?_⟩
   first | rfl | exact ⟨rfl,rfl⟩
 ·rw [hQ]
  have h3:i=ns.length:=by omega
  subst h3
  simp only [go_sem]
  refine ⟨[([11],none,(gC ns ns.length).map i64)],?_⟩
  rw [show gC ns ns.length=eA ns [] by unfold gC;rw [if_neg (Nat.lt_irrefl _)]]
  simp only [go_sem]
  have hdl:=(dq (ns:=ns) (Nat.le_refl _)).1
  unfold bH at hdl
  rw [List.take_length] at hdl
  rw [List.take_of_length_le (by rw [List.length_map,hdl];exact Nat.le_refl _)]
end Go.Proofs.YtejpnabbmgpmaaaGreatDoor

namespace Go.Proofs.YtejpnabbmgpmaaaGreatDoor
open Go.Ab
theorem BO {cs:List Int} {k:Int} {j:Nat} (hj:j<cs.length) (hk:0≤k):(bump cs k).getD j 0=cs.getD j 0+(if k=(j:Int) then 1 else 0):=by
 unfold bump
 rw [List.getD_eq_getElem?_getD,List.getElem?_set]
 by_cases h:k.toNat=j
 ·rw [if_pos h,if_pos (by omega)]
  have:k=(j:Int):=by omega
  subst this
  simp [hj]
 ·rw [if_neg h,if_neg (by omega)]
  simp
theorem px {j:Nat}:∀ (ks cs:List Int),j<cs.length→(∀ k∈ks,0≤k)→(bumps cs ks).getD j 0=cs.getD j 0+(ks.countP (fun x=>decide (x=(j:Int))):Nat)
 | [],cs,_,_=>by simp [bumps]
 | k::r,cs,hj,hk=>by
   show (bumps (bump cs k) r).getD j 0=_
   rw [px r _ (by rw [rB];exact hj) (fun x hx=>hk x (List.mem_cons_of_mem _ hx)),BO hj (hk k List.mem_cons_self),List.countP_cons]
   by_cases h:k=(j:Int)<;>simp [h]<;>omega
theorem yW (cs a b:List Int):bumps cs (a++b)=bumps (bumps cs a) b:=by simp [bumps]
def cnts (ns:List EN) (i:Nat):List Int:=bumps (List.replicate ns.length 0) ((ns.take i).flatMap an)
theorem fu (ns:List EN) (i:Nat):(cnts ns i).length=ns.length:=by unfold cnts;rw [ec,List.length_replicate]
theorem kG {ns:List EN} {i:Nat} (h:i<ns.length):cnts ns (i+1)=bumps (cnts ns i) (an (ndE ns i)):=by
 unfold cnts
 rw [List.take_succ_eq_append_getElem h,List.flatMap_append,yW,bX h]
 simp
theorem pW {ns:List EN} (hs:∀ n∈ns,n.l.length≤1000000):∀ {i:Nat},i≤ns.length→Bd (i*1000003) (cnts ns i)
 | 0,_=>by
   intro c hc
   rw [show cnts ns 0=List.replicate ns.length 0 by simp [cnts,bumps],List.mem_replicate] at hc
   omega
 | i+1,h=>by
   have ih:=pW hs (i:=i) (by omega)
   rw [kG (by omega)]
   intro c hc
   have:=ih.bumps (ks:=an (ndE ns i)) c hc
   have hl:(an (ndE ns i)).length≤1000003:=by
    rw [dn];unfold cj
    have:=cG (ndE ns i).k
    have h2:(ndE ns i).l.length≤1000000:=by rw [bX (by omega)];exact hs _ (List.getElem_mem _)
    split<;>omega
   omega
theorem tN {ns:List EN} (hk:∀ i,i<ns.length→(an (ndE ns i)).all (inB i)=true):((cnts ns ns.length).take (ns.length-1)).any (fun c=>!decide (c=1))=!kW ns:=by
 have hnn:∀ k∈ns.flatMap an,0≤k:=fun k hkm=>by
  obtain ⟨n,hn,hkn⟩:=List.mem_flatMap.1 hkm
  obtain ⟨i,hi,rfl⟩:=List.mem_iff_getElem.1 hn
  have h1:=hk i hi
  rw [bX hi] at h1
  have:=List.all_eq_true.1 h1 k hkn
  simp only [inB,Bool.and_eq_true,decide_eq_true_eq] at this
  exact this.1
 have hget:∀ j,j<ns.length→(cnts ns ns.length).getD j 0=(GX ns j:Int):=fun j hj=>by
  unfold cnts GX
  rw [List.take_length,px _ _ (by simpa using hj) hnn]
  simp [hj]
 have hl:=fu ns ns.length
 unfold kW
 rw [Bool.eq_iff_iff]
 simp only [List.any_eq_true,Bool.not_eq_true',decide_eq_false_iff_not,List.all_eq_false,List.mem_range,decide_eq_true_eq]
 constructor
 ·rintro ⟨c,hc,h1⟩
  obtain ⟨j,hj,rfl⟩:=List.mem_iff_getElem.1 hc
  rw [List.length_take] at hj
  refine ⟨j,by omega,fun h=>h1 ?_⟩
  have:=hget j (by omega)
  rw [h] at this
  rw [List.getElem_take]
  rw [List.getD_eq_getElem?_getD,List.getElem?_eq_getElem (by omega)] at this
  simpa using this
 ·rintro ⟨j,hj,h1⟩
  refine ⟨(cnts ns ns.length)[j],List.mem_iff_getElem.2 ⟨j,by rw [List.length_take];omega,by rw [List.getElem_take]⟩,fun h=>h1 ?_⟩
  have:=hget j (by omega)
  rw [List.getD_eq_getElem?_getD,List.getElem?_eq_getElem (by omega)] at this
  simp only [Option.getD_some,h] at this
  omega
theorem HP.clo {P:Program} {G:List (Nat × Obj)} {f:FuncId} {args:List AV} {ds:List D} {Q:AV→Prop} (hl:args.length=ds.length)
  (hr:∀ (i:Nat) x y,args[i]?=some x→ds[i]?=some y→x=.d y∨∃ g,x=.clo g []∧y=.clo g []) (h:HP P G f ds Q):HCall P G f args [] [] (fun r hp'=>Q r∧r.inU []=true∧hp'=[]):=by
 refine ⟨h.1,fun B β vs w h1 h2 h3 h4 h5=>h.2 B β vs w (h1.trans (by simpa using hl)) h2 h3 h4 { tms:=h5.tms,io:=h5.io,size:=h5.size,frame:=h5.frame,slots:=fun t=>?_,objs:=h5.objs,blocks:=h5.blocks,inj:=h5.inj,us:=h5.us,stay:=h5.stay }⟩
 have hv:=h5.slots t
 rw [cS,aN,if_pos (Nat.zero_le _),Nat.sub_zero] at hv ⊢
 show VR w.heap ((mk (aB 0 (ds.map .d)) [] []).own B.A β) [] _ β _ _
 rw [List.getElem?_map]
 cases hx:args[t]? with
 | none =>
   rw [List.getElem?_eq_none (by rw [← hl];exact List.getElem?_eq_none_iff.1 hx)]
   exact .un _
 | some x =>
   have hlt:=(List.getElem?_eq_some_iff.1 hx).1
   have hy:ds[t]?=some ds[t]:=List.getElem?_eq_getElem (by omega)
   rw [hx] at hv
   rw [hy]
   simp only [Option.map_some,Option.getD_some] at hv ⊢
   rcases hr t _ _ hx hy with e | ⟨g,e1,e2⟩
   ·rw [← e];exact hv
   ·rw [e1] at hv
    rw [e2]
    generalize vs.getD t undef=v at hv ⊢
    cases hv with
    | clo _ vs' _ hs hc=>exact .d _ _ (.clo _ _ _ hs (fun i d hd=>by simp at hd))
def okI (ns:List EN) (i:Nat):Bool:=aH (ndE ns i) && cA ns i
theorem qq {ns:List EN} {i:Nat} (h:cA ns i=true):(an (ndE ns i)).all (inB i)=true:=by
 unfold cA at h
 rw [Bool.and_eq_true] at h
 exact h.1
set_option maxHeartbeats 1000000 in
theorem uO {G} (ns:List EN) (hs:∀ n∈ns,eu BIG n) (hN:ns.length≤1000000):HP Tryz.prog G 27 [exD ns] (fun r=>r=.d (i64 (eX ns))):=by
 generalize hb:eX ns=b
 unfold eX at hb
 unfold exD
 refine aj Tryz.func27 rfl (by decide +kernel) (by simp [Tryz.ntmps27]) (veil fun E=>?_)
 simp only [go_sem]
 repeat (first
  | (apply br E;(· simp only [go_sem]);(· intro h;(try simp only [bq] at h);simp only [↓h,go_sem];rfl);simp only [go_sem])
  | (apply aK E;(· simp only [go_sem]);(· intro h;(try simp only [bq] at h);simp only [↓h,go_sem];rfl);(· intro h;(try simp only [bq] at h);simp only [↓h,go_sem];rfl);simp only [go_sem])
  | (apply aI E;(· simp only [go_sem]);(· rfl);(· intro h h';(try simp only [bq] at h h');simp only [↓h,↓h',go_sem];rfl);simp only [go_sem])
  | (apply aw E;(· simp only [go_sem]);(· rfl);(· intro h h';(try simp only [bq] at h h');simp only [↓h,↓h',go_sem];rfl);(· intro h h';(try simp only [bq] at h h');simp only [↓h,↓h',go_sem];rfl);simp only [go_sem])
  | (apply bo E;(· decide);simp only [go_sem]))
 refine aG E (fun g=>?_) (fun g=>?_)<;>simp only [go_sem]
 ·simp only [Bool.or_eq_true,decide_eq_true_eq] at g
  rw [if_pos (by omega)] at hb
  rw [hb]
 have g':0<ns.length∧ns.length≤600:=by
  simp only [Bool.or_eq_false_iff,decide_eq_false_iff_not] at g
  omega
 rw [if_neg (by omega)] at hb
 refine ⟨⟨by omega,by omega,by omega,by omega⟩,?_⟩
 have hs':∀ n∈ns,n.l.length≤1000000:=fun n hn=>(hs n hn).l
 refine cI E (X:={ i:Nat // i≤ns.length∧∀ j,j<i→okI ns j=true }) (fun x=>[(1,.bx [1] 0),(2,.d (i64 0)),(3,.vw [19] 0 ns.length),(21,.d (.sl (some 9) (ns.map enD))),(22,.d (i64 ns.length)),(23,.d (i64 x.1))])
  (fun x=>[([1],.box [.d (.sl (some 9) (ns.map enD))]),([19],.arr none ((cnts ns x.1).map i64))]) [19,1] (fun x=>ns.length-x.1) ⟨0,Nat.zero_le _,fun j h=>absurd h (Nat.not_lt_zero _)⟩ ?_ ?_
 ·rw [show cnts ns 0=List.replicate ns.length 0 by simp [cnts,bumps],List.map_replicate]
  simp only [go_sem]
  all_goals rfl
 rintro ⟨i,hi,hok⟩ E0
 refine aO E0 fun Q' hQ E'=>?_
 simp only at hi hok ⊢
 simp only [go_sem]
 refine ah E' (fun g1=>?_) (fun g1=>?_)<;>simp only [go_sem]
 ·have hi':i<ns.length:=by omega
  refine ⟨⟨by omega,by omega⟩,?_⟩
  have hg:=bA hi'
  have hsn:=hs _ (by rw [bX hi'];exact List.getElem_mem hi':ndE ns i∈ns)
  have hc1:=Gr (G:=G) _ hsn
  have hc2:=Gk (G:=G) ns i (cnts ns i) (i*1000003) hi' hN (fu ns i) hsn.l (pW hs' hi) (by omega)
  have hok1:okI ns i=(aH (ndE ns i) && cA ns i):=rfl
  have hcs:=kG hi'
  rw [← hcs] at hc2
  have bad:okI ns i=false→okE ns=false:=fun h=>List.all_eq_false.2 ⟨i,List.mem_range.2 hi',by
   show ¬ okI ns i=true
   rw [h];decide⟩
  have good:okI ns i=true→∀ j,j<i+1→okI ns j=true:=fun h j hj=>by
   by_cases e:j=i
   ·rw [e];exact h
   ·exact hok j (by omega)
  generalize ndE ns i=n at hg hc1 hok1
  generalize aH n=x at hc1 hok1
  generalize cA ns i=y at hc2 hok1
  rw [hg]
  simp only [go_sem]
  refine ab E' hc1 rfl rfl (by simp) ?_
  rintro _ rfl
  simp only [go_sem]
  refine bz E' (fun h1=>?_) (fun h1=>?_)<;>simp only [go_sem]
  ·have hx:x=false:=by simpa using h1
   rw [hQ]
   simp only [go_sem]
   rw [bad (by rw [hok1,hx];rfl),Bool.false_and] at hb
   rw [← hb]
   rfl
  ·have hx:x=true:=by simpa using h1
   rw [fV]
   simp only [go_sem]
   refine bw E' (tau [([100],[19])]) [.d (exD ns),.d (i64 i),.vw [100] 0 ns.length] [([100],.arr none ((cnts ns i).map i64))] [100] hc2 rfl (by simp only [go_sem];try rfl) ⟨by simp only [go_sem],by rw [aa];decide⟩ rfl (by simp only [go_sem]) (by simp only [go_sem]) ?_
   rintro _ _ ⟨cs',hl',hcs',rfl,rfl⟩
   simp only [go_sem]
   refine ⟨by rw [fu,hl'];exact Nat.le_refl _,?_⟩
   refine aG E' (fun h2=>?_) (fun h2=>?_)<;>simp only [go_sem]
   ·rw [hQ]
    simp only [go_sem]
    rw [bad (by rw [hok1,show y=false by simpa using h2,Bool.and_false]),Bool.false_and] at hb
    rw [← hb]
    rfl
   ·have hy:y=true:=by simpa using h2
    rw [hQ,hcs' hy,ai (n:=(i:Int)+1) ⟨by omega,by omega⟩]
    simp only [go_sem]
    refine ⟨⟨i+1,by omega,good (by rw [hok1,hx,hy];rfl)⟩,by show ns.length-(i+1)<_;omega,?_⟩
    first | rfl | exact ⟨rfl,rfl⟩
 ·rw [hQ]
  have h3:i=ns.length:=by omega
  subst h3
  simp only [go_sem]
  rw [ai (n:=(ns.length:Int)-1) ⟨by omega,by omega⟩]
  refine ⟨⟨by omega,by omega⟩,?_⟩
  rw [show ((ns.length:Int)-1).toNat-0=ns.length-1 by omega]
  have hkk:∀ i,i<ns.length→(an (ndE ns i)).all (inB i)=true:=fun i hi=>by
   have:=hok i hi
   unfold okI at this
   rw [Bool.and_eq_true] at this
   exact qq this.2
  have hokE:okE ns=true:=List.all_eq_true.2 fun j hj=>hok j (List.mem_range.1 hj)
  have hcl:=fu ns ns.length
  have hc3:=He (G:=G) ((cnts ns ns.length).take (ns.length-1)) (fun c=>!decide (c=1)) 57 [] (by rw [List.length_take];omega) (fun x _=>FP x)
  rw [tN hkk,List.map_take] at hc3
  have hc4:=HP.clo (args:=[.d (.sl none (((cnts ns ns.length).map i64).take (ns.length-1))),.clo 57 []]) rfl (fun i x y hx hy=>by
   rcases i with _ | _ | i
   ·cases hx;cases hy;exact .inl rfl
   ·cases hx;cases hy;exact .inr ⟨57,rfl,rfl⟩
   ·cases hx) hc3
  refine zF E [([19],none,(cnts ns ns.length).map i64)] [.d (.sl none (((cnts ns ns.length).map i64).take (ns.length-1))),.clo 57 []] [] [] hc4 (by rintro _ _ ⟨rfl,_,rfl⟩;exact ⟨rfl,rfl⟩) (by simp only [go_sem]) rfl (by simp only [go_sem];try rfl) ⟨by simp only [go_sem],by rw [aa];decide⟩ rfl (by simp only [go_sem]) (by simp only [go_sem]) ?_
  rintro _ _ ⟨rfl,_,rfl⟩
  simp only [go_sem]
  rw [hokE,Bool.true_and] at hb
  have hdl:=(dq (ns:=ns) (Nat.le_refl _)).1
  unfold bH at hdl
  rw [List.take_length] at hdl
  refine aG E (fun k1=>?_) (fun k1=>?_)<;>simp only [go_sem]
  ·have:kW ns=false:=by simpa using k1
   rw [this] at hb
   rw [← hb]
   rfl
  ·have:kW ns=true:=by simpa using k1
   rw [this,if_pos rfl] at hb
   unfold qP at hb
   have hc5:=Gz (G:=G) ns hN hs' hkk
   unfold exD at hc5
   refine ak mixed E fun X=>?_
   simp only [go_sem]
   refine bp X hc5 rfl rfl (by simp) ?_
   simp only [go_sem]
   rw [ai (n:=(ns.length:Int)-1) ⟨by omega,by omega⟩]
   refine ⟨⟨by omega,by rw [hdl];omega⟩,?_⟩
   rw [aR (by omega),show ((ns.length:Int)-1).toNat=ns.length-1 by omega]
   simp only [go_sem]
   refine ⟨by decide +kernel,?_⟩
   refine ah E (fun k2=>?_) (fun k2=>?_)<;>simp only [go_sem]
   ·rw [if_pos k2] at hb
    rw [← hb]
   ·rw [if_neg k2] at hb
    rw [← hb]
end Go.Proofs.YtejpnabbmgpmaaaGreatDoor

namespace Go.Proofs.YtejpnabbmgpmaaaGreatDoor
open Go.Ab
def Seg (N:Nat) (xs:Nat→List D) (n:Nat) (L:List Int):Prop:=n+L.length≤N∧∀ j,j<L.length→xs (n+j)=[i64 (L.getD j 0)]
theorem Seg.left {N:Nat} {xs:Nat→List D} {n:Nat} {a b:List Int} (h:Seg N xs n (a++b)):Seg N xs n a :=
 ⟨by have:=h.1;rw [List.length_append] at this;omega,fun j hj=>by
  rw [h.2 j (by rw [List.length_append];omega),List.getD_eq_getElem?_getD,List.getD_eq_getElem?_getD,List.getElem?_append_left hj]⟩
theorem Seg.right {N:Nat} {xs:Nat→List D} {n:Nat} {a b:List Int} (h:Seg N xs n (a++b)):Seg N xs (n+a.length) b :=
 ⟨by have:=h.1;rw [List.length_append] at this;omega,fun j hj=>by
  have:=h.2 (a.length+j) (by rw [List.length_append];omega)
  rw [← Nat.add_assoc] at this
  rw [this,List.getD_eq_getElem?_getD,List.getD_eq_getElem?_getD,List.getElem?_append_right (by omega)]
  simp⟩
end Go.Proofs.YtejpnabbmgpmaaaGreatDoor

namespace Go.Proofs.YtejpnabbmgpmaaaGreatDoor
open Go.Ab
structure Walk (ns:List EN) (its:List Int):Prop where
 nd:its.Nodup
 inn:∀ x∈its,0≤x∧x<(ns.length:Int)
 pre:∀ n (h:n<its.length),∀ k∈an (ndE ns its[n].toNat),k∈its.take n
def Hp (ns:List EN) (its:List Int) (x:Int):EN:=bg (ndE ns x.toNat) ((an (ndE ns x.toNat)).map fun k=>(its.idxOf k:Int))
def HI (ns:List EN) (its:List Int) (n:Nat):List EN:=(its.take n).map (Hp ns its)
end Go.Proofs.YtejpnabbmgpmaaaGreatDoor

namespace Go.Proofs.YtejpnabbmgpmaaaGreatDoor
open Go.Ab
structure eO (ns:List EN):Prop where
 pos:0<ns.length
 few:ns.length≤600
 right:∀ i,i<ns.length→aH (ndE ns i)=true
 link:∀ i,i<ns.length→cA ns i=true
 once:kW ns=true
 deep:qP ns≤100
theorem Dt {ns:List EN} (h:eX ns=0):eO ns:=by
 unfold eX at h
 split at h
 ·exact absurd h (by decide)
 rename_i h1
 split at h
 ·rename_i h2
  split at h
  ·exact absurd h (by decide)
  ·rename_i h3
   rw [Bool.and_eq_true] at h2
   have h4:∀ i,i<ns.length→aH (ndE ns i)=true∧cA ns i=true:=fun i hi=>by
    have:=List.all_eq_true.1 h2.1 i (List.mem_range.2 hi)
    simpa [Bool.and_eq_true] using this
   exact ⟨by omega,by omega,fun i hi=>(h4 i hi).1,fun i hi=>(h4 i hi).2,h2.2,by omega⟩
 ·exact absurd h (by decide)
theorem eO.kids {ns:List EN} (h:eO ns):∀ i,i<ns.length→(an (ndE ns i)).all (inB i)=true:=fun i hi=>qq (h.link i hi)
theorem qj {n:EN} (h:aH n=true):n.l.length≤30:=by
 unfold aH bd at h
 simp only [Bool.and_eq_true] at h
 have h1:=h.2.1.2
 split at h1
 ·simp only [Bool.and_eq_true,decide_eq_true_eq] at h1
  exact h1.2.1.2
 ·have:n.l=[]:=by simpa using h1
  rw [this];decide
theorem eO.l {ns:List EN} (h:eO ns):∀ n∈ns,n.l.length≤30:=fun n hn=>by
 obtain ⟨i,hi,rfl⟩:=List.mem_iff_getElem.1 hn
 have:=h.right i hi
 rw [bX hi] at this
 exact qj this
theorem Tr.sub {ns:List EN} (h:Tr ns):HI ns (qA ns ns.length ((ns.length:Int)-1)) (qA ns ns.length ((ns.length:Int)-1)).length=ns:=by
 have h1:=h.norm
 have h0:=h.kids.1
 unfold Hh at h1
 rw [show ((ns.length:Int)-1).toNat+1=ns.length by omega] at h1
 unfold HI Hp
 rw [List.take_length]
 exact h1
end Go.Proofs.YtejpnabbmgpmaaaGreatDoor

namespace Go.Ab
section
variable {P:Program} {cf:Cf} {ops:Array Oper} {K:St→Ns→Prop} {r:List Oper} {s:St} {ns:Ns}
theorem Fo (E:XEng P cf ops K) {d t e n:Nat} {x y:Operand} {ty:TypeId} {pos:String} {af:Array Edge} {z:D} (ht:(P.ti t).k=.slice e) (hz:(P.ti e).zero=some z) (hw:((P.ti e).isW (P.ti e).w && nT (P.ti e).w z)=true)
  (hx:ev s x=.d (.int .i64 n)) (hy:ev s y=.d (.int .i64 n)) (hb:(n:Int)*(P.ti e).by'≤140737488355328∧(n:Int)≤140737488355328) (hd:d<cf.n∧d ∉ s.used)
  (hk:E.run r ((s.add d (.arr (P.ti e).w (List.replicate n z))).put d (.vw [d] 0 n)) (ns++[([],[[d]],[d])])) :
  E.stp { dst:=some d,op:=.makeSlice t x y,type:=ty,pos:=pos,after:=af,guard:=none } r s ns .no:=by
 have hgo:∀ s':St,(s'.add d (.arr (P.ti e).w (List.replicate n z))).put d (.vw [d] 0 n)=s'.go (some d) (.vw [d] 0 n) ⟨[([d],some (.arr (P.ti e).w (List.replicate n z)))],[d]⟩:=fun s'=>by unfold St.go;rw [lA];rfl
 rw [E.stp_eq]
 refine ⟨.vw [d] 0 n,([],⟨[([d],some (.arr (P.ti e).w (List.replicate n z)))],[d]⟩),fun s' hu hh he B hB ds' β a w hds hs Q'=>?_,fun q hq=>?_,hd.1,?_⟩
 ·have h1:ev s' x=.d (.int .i64 n):=(he x (by simp [Op.operands])).trans hx
  have h2:ev s' y=.d (.int .i64 n):=(he y (by simp [Op.operands])).trans hy
  have hok:AOk P cf { dst:=some d,op:=.makeSlice t x y,type:=ty,pos:=pos,after:=af,guard:=none } s' [] (fun _ s2=>s2=(s'.add d (.arr (P.ti e).w (List.replicate n z))).put d (.vw [d] 0 n)):=by
   refine cZ (o:={ dst:=some d,op:=.makeSlice t x y,type:=ty,pos:=pos,after:=af,guard:=none }) rfl ?_
   have h3:opR P.ti cf.n (.makeSlice t x y) (some d) s'=.need (0≤(n:Int)∧(n:Int)≤n∧(n:Int)*(P.ti e).by'≤140737488355328∧(n:Int)≤140737488355328) (.ok ((s'.add d (.arr (P.ti e).w (List.replicate n z))).put d (.vw [d] 0 n))):=by
    unfold opR eh fP
    simp only [h1,h2,ht,hz,hw]
    have hdu:d<cf.n∧d ∉ s'.used:=⟨hd.1,hu d (by simp)⟩
    simp [hdu.1,hdu.2]
   show stp P cf (opR P.ti cf.n (.makeSlice t x y) (some d) s') _ s' [] _
   rw [h3,mU,vm,cF]
   exact ⟨⟨by omega,Int.le_refl _,hb⟩,rfl⟩
  refine Oper.wpIn_mono ?_ (hok B hB ds' β a w hds hs Q')
  rintro a' w' ⟨hd',s2,β',hrun,hs2⟩
  obtain ⟨_,s3,β3,rfl,hs3⟩:=hrun B hB ds' β' a' w' hd' hs2
  exact ⟨hd',β3,by rw [← hgo];exact hs3⟩
 ·obtain rfl:=List.mem_singleton.1 hq
  exact hd.2
 ·rw [← E.run_eq,← hgo]
  exact hk
end
end Go.Ab

