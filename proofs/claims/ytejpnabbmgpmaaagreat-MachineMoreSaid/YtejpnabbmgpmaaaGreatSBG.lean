/-
  Builders of texts: a byte more, the text, its length. (with the parts that follow it)
-/
import Derived.Test.YtejpnabbmgpmaaaGreatSBD
import Derived.Test.YtejpnabbmgpmaaaGreatSBE
import Derived.Test.YtejpnabbmgpmaaaGreatSBF
import Derived.Test.YtejpnabbmgpmaaaGreatSBC
set_option linter.unusedSimpArgs false
namespace Go.Proofs.YtejpnabbmgpmaaaGreat
open Go.Ab
def dq:List (Name × Ob):=[([0],.boxT (some 316) [.d .nilp,.d .nils])]
def sh (l:List UInt8):List (Name × Ob):=[([0],.boxT (some 316) [.at [0] 0,.vw [2] 0 l.length]),([2],.arrT (some 5) none (l.map byD))]
def b7 (l:List UInt8):List (Name × Ob):=[([0],.boxT (some 316) [.at [0] 0,.vw [1] 0 l.length]),([1],.arrT (some 5) none (l.map byD))]
theorem noesc (v:Value) (w:World):(callFunc 339 #[v]).run Tryz.prog w=.ok (.value v) w:=by
 rw [run_callFunc_extern Tryz.func339 (by kernel_rfl) (by kernel_rfl) (by kernel_rfl) (e:=Extern.AbiNoEscape.same) (by kernel_rfl)]
 rw [Lib.run_noEscape]
 rfl
theorem F3:(Tryz.prog.ti 349).k=.oth:=by kernel_rfl
theorem GS:Tryz.prog.underlying 349=some .unsafePointer:=by kernel_rfl
theorem AF {G}:HCall Tryz.prog G 328 [.at [0] 0] [([0],.boxT (some 316) [.d .nilp,.vw [1] 0 0]),([1],.arrT (some 5) none [])] [0,1] (fun r hp'=>r=.tup []∧hp'=[([0],.boxT (some 316) [.at [0] 0,.vw [1] 0 0]),([1],.arrT (some 5) none [])]):=by
 refine ai Tryz.func328 rfl (by decide +kernel) (by simp [Tryz.ntmps328]) (veil fun E=>?_)
 simp only [go_sem]
 refine cN E (e:=316) true (by rw [ox]) (by simp only [go_sem]) rfl ?_
 simp only [go_sem]
 refine Gd E (e:=316) [0] 0 316 [.d .nilp,.vw [1] 0 0] (by rw [ox]) GS (by kernel_rfl) (by simp only [go_sem]) rfl rfl (by decide) ?_
 simp only [go_sem]
 refine Db E 339 (.at [0] 0) noesc (by simp only [go_sem]) rfl rfl ?_
 simp only [go_sem]
 simp only [F3]
 simp only [go_sem]
 refine GG E (e:=316) [0] 0 316 [.d .nilp,.vw [1] 0 0] (by rw [ox]) GS (by kernel_rfl) (by simp only [go_sem]) rfl rfl 2 rfl (by kernel_rfl) ?_
 simp only [go_sem]
 refine ⟨_,_,[0,1],id,⟨rfl,rfl⟩,?_⟩
 simp only [go_sem]
theorem Au {G} (l:List UInt8):HCall Tryz.prog G 328 [.at [0] 0] (b7 l) [0,1] (fun r hp'=>r=.tup []∧hp'=b7 l):=by
 unfold b7
 refine ai Tryz.func328 rfl (by decide +kernel) (by simp [Tryz.ntmps328]) (veil fun E=>?_)
 simp only [go_sem]
 refine cN E (e:=316) false (by rw [ox]) (by simp only [go_sem]) rfl ?_
 simp only [go_sem]
 refine C3 E (e:=316) [0] 0 (by rw [ox]) (by kernel_rfl) (by simp only [go_sem]) rfl rfl rfl ?_
 simp only [go_sem]
 refine ⟨_,_,[0,1],id,⟨rfl,rfl⟩,?_⟩
 simp only [go_sem]
theorem rJ {G} (c:UInt8):HCall Tryz.prog G 302 [.at [0] 0,.d (byD c)] dq [0] (fun r hp'=>r=.d .nili∧hp'=sh [c]):=by
 have h0:=AF (G:=G)
 unfold dq sh byD
 refine ai Tryz.func302 rfl (by decide +kernel) (by simp [Tryz.ntmps302]) (veil fun E=>?_)
 simp only [go_sem]
 refine BA E [0] 1 1 (some 316) (some 5) none [.d .nilp,.d .nils] rfl rfl (by rw [aa];decide) ?_
 refine ab E [.at [0] 0] [([0],.boxT (some 316) [.d .nilp,.vw [1] 0 0]),([1],.arrT (some 5) none [])] [0,1] h0 rfl rfl ⟨by simp only [go_sem],by show ¬ _∈[1,0];decide⟩ rfl (by simp only [go_sem]) (by simp only [go_sem]) ?_
 rintro _ _ ⟨rfl,rfl⟩
 simp only [go_sem]
 refine n8 E (e:=5) (some 5) [1] [13] [] [.int .u8 (c.toNat:Nat)] (by rw [yG]) (by rw [ti5];rfl) (by rw [ti5];rfl) (by rw [ti5];rfl) rfl ⟨by simp only [go_sem],by rw [aa];decide⟩ rfl rfl rfl rfl (by rw [ti5];simp [TI.by1]) ?_
 simp only [go_sem]
 refine ⟨_,_,[0,1,2],tau [([2],[14])],⟨rfl,rfl⟩,?_⟩
 simp only [go_sem]
theorem sI {G} (l:List UInt8) (c:UInt8) (hl:l.length≤1000000):HCall Tryz.prog G 302 [.at [0] 0,.d (byD c)] (b7 l) [0,1] (fun r hp'=>r=.d .nili∧hp'=sh (l++[c])):=by
 have h0:=Au (G:=G) l
 unfold b7 at *
 unfold sh
 refine ai Tryz.func302 rfl (by decide +kernel) (by simp [Tryz.ntmps302]) (veil fun E=>?_)
 simp only [go_sem]
 refine ab E [.at [0] 0] [([0],.boxT (some 316) [.at [0] 0,.vw [1] 0 l.length]),([1],.arrT (some 5) none (l.map byD))] [0,1] h0 rfl rfl ⟨by simp only [go_sem],by rw [aa];decide⟩ rfl (by simp only [go_sem]) (by simp only [go_sem]) ?_
 rintro _ _ ⟨rfl,rfl⟩
 simp only [go_sem]
 rw [show byD c=.int .u8 (c.toNat:Nat) from rfl]
 simp only [go_sem]
 refine ⟨Nat.le_refl _,?_⟩
 have hlm:(l.map byD).length=l.length:=by simp
 refine n8 E (d:=14) (e:=5) (some 5) [1] [13] (l.map byD) [.int .u8 (c.toNat:Nat)] (by rw [yG]) (by rw [ti5];rfl) (by rw [ti5];rfl) (by rw [ti5];rfl) rfl ⟨by simp only [go_sem],by rw [aa];decide⟩ (by rw [hlm];rfl) rfl rfl rfl (by rw [ti5,hlm];simp [TI.by1];omega) ?_
 rw [hlm,show l.map byD++[.int .u8 (c.toNat:Nat)]=(l++[c]).map byD by simp [byD]]
 simp only [go_sem]
 refine ⟨_,_,[0,1,2],tau [([2],[14])],⟨rfl,rfl⟩,?_⟩
 rw [show (l++[c]).length=l.length+1 by simp]
 simp only [go_sem]
theorem AH {G}:HCall Tryz.prog G 299 [.at [0] 0] dq [0] (fun r hp'=>r=.d (i64 0)∧hp'=dq):=by
 unfold dq
 refine ai Tryz.func299 rfl (by decide +kernel) (by simp [Tryz.ntmps299]) (veil fun E=>?_)
 simp only [go_sem]
 refine ⟨_,_,[0],id,⟨rfl,rfl⟩,?_⟩
 simp only [go_sem]
theorem yx {G} (l:List UInt8):HCall Tryz.prog G 299 [.at [0] 0] (b7 l) [0,1] (fun r hp'=>r=.d (i64 l.length)∧hp'=b7 l):=by
 unfold b7
 refine ai Tryz.func299 rfl (by decide +kernel) (by simp [Tryz.ntmps299]) (veil fun E=>?_)
 simp only [go_sem]
 refine ⟨_,_,[0,1],id,⟨rfl,rfl⟩,?_⟩
 simp only [go_sem]
theorem yD {G}:HCall Tryz.prog G 300 [.at [0] 0] dq [0] (fun r hp'=>r=.d (.str [])∧hp'=dq):=by
 unfold dq
 refine ai Tryz.func300 rfl (by decide +kernel) (by simp [Tryz.ntmps300]) (veil fun E=>?_)
 simp only [go_sem]
 refine iV 10 mixed E (by simp only [List.take_succ_cons,List.take_zero];exact rfl) (by simp only [List.drop_succ_cons,List.drop_zero];exact rfl) rfl rfl (by decide +kernel) fun X=>?_
 simp only [go_sem]
 refine aA X (d:=4) [0] 0 (some 316) [.d .nilp,.d .nils] (by simp only [go_sem]) rfl rfl ?_
 simp only [go_sem]
 refine Ed X (d:=7) (by simp only [go_sem]) rfl ?_
 simp only [go_sem]
 refine aA X (d:=9) [0] 0 (some 316) [.d .nilp,.d .nils] (by simp only [go_sem]) rfl rfl ?_
 simp only [go_sem]
 refine ⟨by decide +kernel,?_⟩
 refine BS E (by simp only [go_sem]) rfl rfl ?_
 simp only [go_sem]
 refine ⟨_,_,[0],id,⟨rfl,rfl⟩,?_⟩
 simp only [go_sem]
theorem EV:Tryz.prog.cellsOf 5=1:=by kernel_rfl
theorem GY:Tryz.prog.underlying 341=some (.pointer 5):=by kernel_rfl
theorem AB {G} (l:List UInt8) (h0:l≠[]) (hl:l.length≤1000000):HCall Tryz.prog G 300 [.at [0] 0] (b7 l) [0,1] (fun r hp'=>r=.d (.str l)∧hp'=[]):=by
 unfold b7
 refine ai Tryz.func300 rfl (by decide +kernel) (by simp [Tryz.ntmps300]) (veil fun E=>?_)
 simp only [go_sem]
 refine iV 10 mixed E (by simp only [List.take_succ_cons,List.take_zero];exact rfl) (by simp only [List.drop_succ_cons,List.drop_zero];exact rfl) rfl rfl (by decide +kernel) fun X=>?_
 simp only [go_sem]
 refine aA X (d:=4) [0] 0 (some 316) [.at [0] 0,.vw [1] 0 l.length] (by simp only [go_sem]) rfl rfl ?_
 simp only [go_sem]
 refine GK X (d:=7) [1] (some 5) none (l.map byD) l.length (by simp only [go_sem]) rfl rfl (List.length_pos_iff.2 h0) ?_
 simp only [go_sem]
 refine aA X (d:=9) [0] 0 (some 316) [.at [0] 0,.vw [1] 0 l.length] (by simp only [go_sem]) rfl rfl ?_
 simp only [go_sem]
 refine ⟨by decide +kernel,?_⟩
 refine ET E (e:=5) [1] l (by simp only [go_sem]) GY EV h0 (by omega) rfl rfl rfl ?_
 simp only [go_sem]
 refine ⟨_,_,[0,1],id,⟨rfl,rfl⟩,?_⟩
 simp only [go_sem]
end Go.Proofs.YtejpnabbmgpmaaaGreat

namespace Go.Proofs.YtejpnabbmgpmaaaGreat
open Go.Ab
theorem qj (r:List UInt8):(e7 r).2≤r.length:=by
 unfold e7
 (repeat' split)<;>simp
theorem sV:∀ (m:Nat) (r:List UInt8) (i:Nat) (acc:List UInt8),(dG m r i acc).2.2=0→i+1≤(dG m r i acc).2.1∧(dG m r i acc).2.1≤i+r.length
 | 0,_,_,_,h=>by simp [dG] at h
 | _+1,[],_,_,h=>by simp [dG] at h
 | m+1,c::r,i,acc,h=>by
   unfold dG at h ⊢
   split at h
   ·rename_i hc
    rw [if_pos hc]
    split at h
    ·simp at h
    ·rename_i h2;rw [if_neg h2];simp only [List.length_cons];omega
   rename_i hc
   rw [if_neg hc]
   split at h
   ·rename_i h1
    rw [if_pos h1]
    split at h
    ·simp at h
    ·rename_i h2
     rw [if_neg h2]
     have ih:=sV m _ _ _ h
     have:=qj r
     rw [List.length_drop] at ih
     simp only [List.length_cons];omega
   rename_i h1
   rw [if_neg h1]
   split at h
   ·rename_i h2
    rw [if_pos h2]
    have ih:=sV m _ _ _ h
    simp only [List.length_cons];omega
   ·simp at h
theorem Dj {s:List UInt8} (h:(cI s).2.2=0):1≤(cI s).2.1∧(cI s).2.1≤s.length:=by
 cases s with
 | nil=>simp [cI] at h
 | cons c r =>
   simp only [cI] at h ⊢
   by_cases hc:c=34
   ·rw [if_pos hc] at h ⊢
    have:=sV _ _ _ _ h
    simp only [List.length_cons];omega
   ·rw [if_neg hc] at h;simp at h
theorem jS (l:List UInt8):b6 l≤l.length:=by
 cases l with
 | nil=>simp [b6]
 | cons c r =>
   rw [gm (by simp)]
   have:=u2 ((c::r).drop 1)
   split
   ·simp only [List.drop_succ_cons,List.drop_zero] at this;simp;omega
   ·omega
theorem qn:∀ l:List UInt8,jt l≤l.length
 | []=>Nat.le_refl _
 | c::r=>by
   unfold jt
   have:=qn r
   split<;>simp
   omega
theorem gb {s p:List UInt8} (h:bb s p=true):p.length≤s.length:=by
 simp only [bb,Bool.and_eq_true,decide_eq_true_eq] at h
 exact h.1
theorem xV {s:List UInt8} (hs:s≠[]) (h:(dm s).e=0):1≤(dm s).n∧(dm s).n≤s.length:=by
 have h0:=List.length_pos_iff.2 hs
 unfold dm at h ⊢
 split at h
 ·rename_i hw
  rw [if_pos hw]
  unfold mE at h ⊢
  have:=jS s
  split at h
  ·simp [dB] at h
  rename_i h1
  rw [if_neg h1]
  (repeat' split)<;>(simp only;omega)
 rename_i hw
 rw [if_neg hw]
 split at h
 ·rename_i h1
  rw [if_pos h1]
  unfold rf at h ⊢
  split at h
  ·simp [dB] at h
  rename_i h2
  rw [if_neg h2]
  split at h
  ·simp [dB] at h
  rename_i h3
  rw [if_neg h3]
  have:=jS (s.drop 1)
  rw [List.length_drop] at this
  have h4:¬ b6 (s.drop 1)=0:=fun e=>h2 (.inl e)
  simp only;omega
 rename_i h1
 rw [if_neg h1]
 split at h
 ·rename_i h2
  rw [if_pos h2]
  unfold AW
  have:=qn (s.drop 1)
  rw [List.length_drop] at this
  simp only;omega
 rename_i h2
 rw [if_neg h2]
 split at h
 ·rename_i h3
  rw [if_pos h3]
  exact Dj h
 rename_i h3
 rw [if_neg h3]
 unfold mA at h ⊢
 split at h
 ·rename_i h4
  rw [if_pos h4]
  simp only [Bool.or_eq_true] at h4
  rcases h4 with h4 | h4
  ·have:=gb h4;simp at this;simp only;omega
  ·have:=gb h4;simp at this;simp only;omega
 rename_i h4
 rw [if_neg h4]
 split at h
 ·simp [dB] at h
 ·rename_i h5;rw [if_neg h5];simp only;omega
theorem u4:∀ (m:Nat) (s:List UInt8) (at':Nat),∀ q∈dC m s at',q.1≤at'+s.length
 | 0,_,_,_,h=>by simp [dC] at h
 | m+1,s,at',q,h=>by
   unfold dC at h
   split at h
   ·cases h
   rename_i hd
   have h0:=List.length_pos_iff.2 hd
   rw [List.length_drop] at h0
   split at h
   ·rw [List.mem_singleton.1 h];simp only;omega
   rename_i he
   have hn:=xV hd (by simpa using he)
   rw [List.length_drop] at hn
   rcases List.mem_cons.1 h with rfl | h
   ·simp only;omega
   ·have:=u4 m _ _ q h
    simp only [List.length_drop] at this
    omega
theorem jn:∀ (m:Nat) (s:List UInt8) (at':Nat),(dC m s at').length≤s.length
 | 0,_,_=>by simp [dC]
 | m+1,s,at'=>by
   unfold dC
   split
   ·simp
   rename_i hd
   have h0:=List.length_pos_iff.2 hd
   rw [List.length_drop] at h0
   split
   ·simp;omega
   rename_i he
   have hn:=xV hd (by simpa using he)
   rw [List.length_drop] at hn
   have:=jn m ((s.drop (bh s)).drop (dm (s.drop (bh s))).n) (at'+bh s+(dm (s.drop (bh s))).n)
   simp only [List.length_drop,List.length_cons] at this ⊢
   omega
theorem qZ:∀ {l:List (Nat × Fnd)} {q:Nat × Int},ju l=some q→∃ x∈l,x.1=q.1
 | [],_,h=>by cases h
 | a::r,q,h=>by
   unfold ju at h
   split at h
   ·cases h;exact ⟨a,List.mem_cons_self,rfl⟩
   ·obtain ⟨x,hx,e⟩:=qZ h
    exact ⟨x,List.mem_cons_of_mem _ hx,e⟩
theorem pI:∀ {l:List (Nat × Fnd)} {q:Nat × Int},ju l=some q→q.2≠0
 | [],_,h=>by cases h
 | a::r,q,h=>by
   unfold ju at h
   split at h
   ·rename_i g;cases h;exact g
   ·exact pI h
theorem Ea (s:List UInt8):(dM s).2.1≤s.length∧(∀ t∈(dM s).1,0≤t.pos∧t.pos≤s.length)∧(dM s).1.length≤s.length∧((dM s).2.2=0→(dM s).2.1=s.length):=by
 have hin:=u4 s.length.succ s 0
 unfold dM
 split
 ·rename_i i e h
  obtain ⟨x,hx,hxe⟩:=qZ h
  have:=hin x hx
  have:=pI h
  refine ⟨by simp only at *;omega,fun _ h=>(by cases h),Nat.zero_le _,fun h=>absurd h this⟩
 ·refine ⟨Nat.le_refl _,fun t ht=>?_,?_,fun _=>rfl⟩
  ·obtain ⟨q,hq,rfl⟩:=List.mem_map.1 ht
   have:=hin q hq
   show 0≤(q.1:Int)∧(q.1:Int)≤_
   omega
  ·rw [List.length_map];exact jn _ _ _
end Go.Proofs.YtejpnabbmgpmaaaGreat

namespace Go.Proofs.YtejpnabbmgpmaaaGreat
open Go.Ab
theorem EL (l:List UInt8) (c:UInt8) (w:World):(callFunc 296 #[.string ⟨l.toArray⟩,.int .u8 (c.toNat:Nat)]).run Tryz.prog w=.ok (.value (.int .i64 (Lib.indexByte l c))) w:=by
 rw [run_callFunc_extern Tryz.func296 (by kernel_rfl) (by kernel_rfl) (by kernel_rfl) (e:=Extern.BytealgIndexByte.indexByte) (by kernel_rfl)]
 rw [Lib.run_indexByteString]
 simp [Result.andThen]
theorem Bl {G} (l:List UInt8) (c:UInt8):HP Tryz.prog G 265 [.str l,u8 c] (fun r=>r=.d (i64 (Lib.indexByte l c))):=by
 unfold u8
 refine al Tryz.func265 rfl (by decide +kernel) (by simp [Tryz.ntmps265]) (veil fun E=>?_)
 simp only [go_sem]
 refine Gi E 296 [.str l,.int .u8 (c.toNat:Nat)] [.string ⟨l.toArray⟩,.int .u8 (c.toNat:Nat)] (.int .i64 (Lib.indexByte l c)) (.int .i64 (Lib.indexByte l c)) rfl rfl (EL l c) (by simp only [go_sem]) rfl rfl ?_
 simp only [go_sem]
theorem jo {G} (l:List UInt8) (c:UInt8):HP Tryz.prog G 214 [.str l,u8 c] (fun r=>r=.d (i64 (Lib.indexByte l c))):=by
 refine al Tryz.func214 rfl (by decide +kernel) (by simp [Tryz.ntmps214]) (veil fun E=>?_)
 simp only [go_sem]
 refine ag E (Bl l c) rfl rfl (by simp) ?_
 rintro _ rfl
 simp only [go_sem]
theorem vG {G} (s p:List UInt8):HP Tryz.prog G 269 [.str s,.str p] (fun r=>r=.d (.bool (bb s p))):=by
 refine al Tryz.func269 rfl (by decide +kernel) (by simp [Tryz.ntmps269]) (veil fun E=>?_)
 simp only [go_sem]
 refine ag E (u9 s p) rfl rfl (by simp) ?_
 rintro _ rfl
 simp only [go_sem]
theorem vq {G} (c:UInt8):HP Tryz.prog G 303 [u8 c] (fun r=>r=.d (.bool (kr c))):=by
 unfold u8
 refine al Tryz.func303 rfl (by decide +kernel) (by simp [Tryz.ntmps303]) (veil fun E=>?_)
 simp only [go_sem]
 repeat (first
  | (apply gw E;(· simp only [go_sem]);(· intro h;(try simp only [bq] at h);simp only [↓h,go_sem];rfl);simp only [go_sem])
  | (apply cS E;(· simp only [go_sem]);(· intro h;(try simp only [bq] at h);simp only [↓h,go_sem];rfl);(· intro h;(try simp only [bq] at h);simp only [↓h,go_sem];rfl);simp only [go_sem])
  | (apply cL E;(· simp only [go_sem]);(· rfl);(· intro h h';(try simp only [bq] at h h');simp only [↓h,↓h',go_sem];rfl);simp only [go_sem])
  | (apply bG E;(· simp only [go_sem]);(· rfl);(· intro h h';(try simp only [bq] at h h');simp only [↓h,↓h',go_sem];rfl);(· intro h h';(try simp only [bq] at h h');simp only [↓h,↓h',go_sem];rfl);simp only [go_sem])
  | (apply eU E;(· decide);simp only [go_sem]))
 have hp:(((decide (32≤((c.toNat:Nat):Int)) && decide (((c.toNat:Nat):Int)≤126)) && decide (¬ ((c.toNat:Nat):Int)=34)) && decide (¬ ((c.toNat:Nat):Int)=92))=kr c:=by
  unfold kr
  rw [Bool.eq_iff_iff];simp;omega
 rw [hp]
theorem eJ {c:UInt8} (d:UInt8) (h:((c.toNat:Nat):Int)=(d.toNat:Nat)):c=d:=UInt8.toNat_inj.1 (by omega)
theorem bt {c:UInt8} (d:UInt8) (h:¬ ((c.toNat:Nat):Int)=(d.toNat:Nat)):¬ c=d:=fun e=>h (by rw [e])
def CW (c:UInt8) (r:List UInt8):UInt8 × Nat:=if c=110 then (10,1) else if c=116 then (9,1) else if c=120 then (match r with | a::b::_=>if Lib.indexByte jq a<0∨Lib.indexByte jq b<0 then (0,0) else (UInt8.ofNat (16*Lib.indexByte jq a+Lib.indexByte jq b).toNat,3) | _=>(0,0)) else (0,0)
theorem zW (c:UInt8) (r:List UInt8):e7 (c::r)=if c=34∨c=92 then (c,1) else CW c r:=rfl
theorem Bo (c:UInt8) (r:List UInt8) (h:c=34∨c=92):e7 (c::r)=(c,1):=by rw [zW,if_pos h]
theorem Dz (c:UInt8) (r:List UInt8) (h:¬ (c=34∨c=92)):e7 (c::r)=CW c r:=by rw [zW,if_neg h]
theorem DT (c:UInt8):∀ l:List UInt8,Lib.indexByte l c<l.length∨l=[]
 | []=>.inr rfl
 | b::l=>by
   left
   have:=DT c l
   unfold Lib.indexByte
   split
   ·simp only [List.length_cons];omega
   split
   ·simp only [List.length_cons];omega
   ·rcases this with h | h
    ·simp only [List.length_cons];omega
    ·rename_i h1 h2
     subst h
     exact absurd rfl h2
theorem Ag (c:UInt8):Lib.indexByte jq c<16:=by
 rcases DT c jq with h | h
 ·exact h
 ·cases h
theorem uX {G} (s:List UInt8) (hl:s.length≤1000000):HP Tryz.prog G 301 [.str s] (fun r=>r=.tup [.d (u8 (e7 s).1),.d (i64 (e7 s).2)]):=by
 unfold u8
 refine al Tryz.func301 rfl (by decide +kernel) (by simp [Tryz.ntmps301]) (veil fun E=>?_)
 simp only [go_sem]
 refine aI E (fun h=>?_) (fun h=>?_)<;>simp only [go_sem]
 ·have h0:s=[]:=by simpa using h
  subst h0
  rfl
 cases s with
 | nil=>simp at h
 | cons c r =>
 have hc0:(c::r).getD 0 0=c:=rfl
 simp only [List.length_cons] at hl
 refine ⟨by simp,?_⟩
 rw [hc0]
 have key1:c=34∨c=92→e7 (c::r)=(c,1):=Bo c r
 have key0:¬ (c=34∨c=92)→e7 (c::r)=CW c r:=Dz c r
 refine aj E (fun h1=>?_) (fun h1=>?_)<;>simp only [go_sem]
 ·refine aj E (fun _=>?_) (fun h2=>absurd h1 h2)<;>simp only [go_sem]
  refine ⟨by simp,?_⟩
  rw [key1 (.inl (eJ 34 h1))]
  rfl
 refine aj E (fun h2=>?_) (fun h2=>?_)<;>simp only [go_sem]
 ·refine ⟨by simp,?_⟩
  rw [key1 (.inr (eJ 92 h2))]
  rfl
 have key:=key0 (fun h=>h.elim (bt 34 h1) (bt 92 h2))
 unfold CW at key
 refine aj E (fun h3=>?_) (fun h3=>?_)<;>simp only [go_sem]
 ·rw [key,if_pos (eJ 110 h3)];rfl
 rw [if_neg (bt 110 h3)] at key
 refine aj E (fun h4=>?_) (fun h4=>?_)<;>simp only [go_sem]
 ·rw [key,if_pos (eJ 116 h4)];rfl
 rw [if_neg (bt 116 h4)] at key
 refine aj E (fun h5=>?_) (fun h5=>?_)<;>simp only [go_sem]
 rotate_left
 ·rw [key,if_neg (bt 120 h5)];rfl
 rw [if_pos (eJ 120 h5)] at key
 refine aj E (fun h6=>?_) (fun h6=>?_)<;>simp only [go_sem]
 ·have h7:e7 (c::r)=(0,0):=by
   match r,h6,key with
   | [],_,key=>exact key
   | [_],_,key=>exact key
   | _::_::_,h6,_=>simp only [List.length_cons] at h6;omega
  rw [h7];rfl
 obtain ⟨a,b,r',rfl⟩:∃ a b r',r=a::b::r':=by
  match r,h6 with
  | [],h6=>exact absurd (by simp) h6
  | [_],h6=>exact absurd (by simp) h6
  | a::b::r',_=>exact ⟨a,b,r',rfl⟩
 simp only at key
 refine ah mixed E fun X=>?_
 simp only [go_sem]
 have ha:=Ag a
 have hb:=Ag b
 refine ⟨by omega,?_⟩
 rw [show (c::a::b::r').getD 1 0=a from rfl]
 refine bH X (jo jq a) rfl rfl (by simp) ?_
 simp only [go_sem]
 refine ⟨by omega,?_⟩
 rw [show (c::a::b::r').getD 2 0=b from rfl]
 refine bH X (jo jq b) rfl rfl (by simp) ?_
 simp only [go_sem]
 generalize Lib.indexByte jq a=x at ha key
 generalize Lib.indexByte jq b=y at hb key
 refine ⟨by decide +kernel,?_⟩
 repeat (first
  | (apply gw E;(· simp only [go_sem]);(· intro h;(try simp only [bq] at h);simp only [↓h,go_sem];rfl);simp only [go_sem])
  | (apply cS E;(· simp only [go_sem]);(· intro h;(try simp only [bq] at h);simp only [↓h,go_sem];rfl);(· intro h;(try simp only [bq] at h);simp only [↓h,go_sem];rfl);simp only [go_sem])
  | (apply cL E;(· simp only [go_sem]);(· rfl);(· intro h h';(try simp only [bq] at h h');simp only [↓h,↓h',go_sem];rfl);simp only [go_sem])
  | (apply bG E;(· simp only [go_sem]);(· rfl);(· intro h h';(try simp only [bq] at h h');simp only [↓h,↓h',go_sem];rfl);(· intro h h';(try simp only [bq] at h h');simp only [↓h,↓h',go_sem];rfl);simp only [go_sem])
  | (apply eU E;(· decide);simp only [go_sem]))
 refine aI E (fun h7=>?_) (fun h7=>?_)<;>simp only [go_sem]
 ·rw [key,if_pos (by simpa using h7)];rfl
 ·have h8:0≤x∧0≤y:=by
   have:¬ (x<0∨y<0):=by simpa using h7
   omega
  rw [key,if_neg (by omega),ao (n:=16*x) ⟨by omega,by omega⟩,ao ⟨by omega,by omega⟩]
  obtain ⟨n,hn⟩:∃ n:Nat,16*x+y=n:=⟨(16*x+y).toNat,by omega⟩
  rw [hn,Int.toNat_natCast]
  have h9:n<256:=by omega
  have h10:IntKind.u8.wrap (n:Int)=((UInt8.ofNat n).toNat:Nat):=by
   rw [UInt8.toNat_ofNat']
   simp [IntKind.wrap,IntKind.bits,IntKind.signed]
  rw [h10]
  rfl
end Go.Proofs.YtejpnabbmgpmaaaGreat

namespace Go.Proofs.YtejpnabbmgpmaaaGreat
open Go.Ab
def Ak:List UInt8→List (Name × Ob)
 | []=>dq
 | c::r=>b7 (c::r)
theorem ix (l:List UInt8) (c:UInt8):Ak (l++[c])=b7 (l++[c]):=by cases l<;>rfl
structure TkI (s:List UInt8) (i:Nat) (acc:List UInt8) (m:Nat):Prop where
 h1:1≤i
 hi:i≤s.length
 ha:acc.length≤i
 hm:(s.drop i).length<m
 he:dG m (s.drop i) i acc=cI s
theorem TkI.init {c:UInt8} {r:List UInt8} (hc:c=34):TkI (c::r) 1 [] r.length.succ :=
 ⟨Nat.le_refl _,by simp,by simp,by simp,by simp only [List.drop_succ_cons,List.drop_zero,cI,if_pos hc]⟩
theorem TkI.fin {s:List UInt8} {i m:Nat} {acc:List UInt8} (h:TkI s i acc m) (hi:s.length≤i):cI s=([],0,5):=by
 rw [← h.he,List.drop_eq_nil_of_le hi]
 cases m<;>rfl
theorem TkI.cases {s:List UInt8} {i m:Nat} {acc:List UInt8} (h:TkI s i acc m) (hi:i<s.length):∃ m',m=m'+1∧s.drop i=s.getD i 0::s.drop (i+1):=by
 obtain ⟨m',rfl⟩:∃ m',m=m'+1:=⟨m-1,by have:=h.hm;omega⟩
 exact ⟨m',rfl,by rw [List.drop_eq_getElem_cons hi];simp [hi]⟩
theorem TkI.mark {s:List UInt8} {i m:Nat} {acc:List UInt8} (h:TkI s i acc m) (hi:i<s.length) (hc:s.getD i 0=34):cI s=if 200<acc.length then ([],0,7) else (acc,i+1,0):=by
 obtain ⟨m',rfl,hd⟩:=h.cases hi
 rw [← h.he,hd,dG,if_pos hc]
theorem TkI.bad {s:List UInt8} {i m:Nat} {acc:List UInt8} (h:TkI s i acc m) (hi:i<s.length) (hc:¬ s.getD i 0=34) (hs:s.getD i 0=92) (he:(e7 (s.drop (i+1))).2=0):cI s=([],0,5):=by
 obtain ⟨m',rfl,hd⟩:=h.cases hi
 rw [← h.he,hd,dG,if_neg hc,if_pos hs,if_pos he]
theorem TkI.odd {s:List UInt8} {i m:Nat} {acc:List UInt8} (h:TkI s i acc m) (hi:i<s.length) (hc:¬ s.getD i 0=34) (hs:¬ s.getD i 0=92) (hp:kr (s.getD i 0)=false):cI s=([],0,5):=by
 obtain ⟨m',rfl,hd⟩:=h.cases hi
 rw [← h.he,hd,dG,if_neg hc,if_neg hs,if_neg (by rw [hp];simp)]
theorem TkI.esc {s:List UInt8} {i m:Nat} {acc:List UInt8} (h:TkI s i acc m) (hi:i<s.length) (hc:¬ s.getD i 0=34) (hs:s.getD i 0=92) (he:¬ (e7 (s.drop (i+1))).2=0) :
  TkI s (i+(e7 (s.drop (i+1))).2+1) (acc++[(e7 (s.drop (i+1))).1]) (m-1):=by
 obtain ⟨m',rfl,hd⟩:=h.cases hi
 have hl:=qj (s.drop (i+1))
 rw [List.length_drop] at hl
 have hm:=h.hm
 have ha:=h.ha
 rw [List.length_drop] at hm
 refine ⟨by omega,by omega,by simp;omega,by rw [List.length_drop];omega,?_⟩
 rw [← h.he,hd,dG,if_neg hc,if_pos hs,if_neg he,List.drop_drop,Nat.add_sub_cancel]
 congr 2
 omega
theorem TkI.plain {s:List UInt8} {i m:Nat} {acc:List UInt8} (h:TkI s i acc m) (hi:i<s.length) (hc:¬ s.getD i 0=34) (hs:¬ s.getD i 0=92) (hp:kr (s.getD i 0)=true):TkI s (i+1) (acc++[s.getD i 0]) (m-1):=by
 obtain ⟨m',rfl,hd⟩:=h.cases hi
 have hm:=h.hm
 have ha:=h.ha
 rw [List.length_drop] at hm
 refine ⟨by omega,by omega,by simp;omega,by rw [List.length_drop];omega,?_⟩
 rw [← h.he,hd,dG,if_neg hc,if_neg hs,if_pos hp,Nat.add_sub_cancel]
set_option maxHeartbeats 1000000 in
theorem DA {G} (s:List UInt8) (hl:s.length≤1000000):HP Tryz.prog G 268 [.str s] (fun r=>r=.tup [.d (.str (cI s).1),.d (i64 (cI s).2.1),.d (i64 (cI s).2.2)]):=by
 refine al Tryz.func268 rfl (by decide +kernel) (by simp [Tryz.ntmps268]) (veil fun E=>?_)
 simp only [go_sem]
 cases s with
 | nil =>
   simp only [go_sem]
   rfl
 | cons c r =>
 refine cY E (fun h=>absurd h (by simp)) (fun h=>?_)<;>simp only [go_sem]
 refine ⟨by simp,?_⟩
 refine aj E (fun h1=>?_) (fun h1=>?_)<;>simp only [go_sem]
 ·have h2:cI (c::r)=([],0,5):=by
   unfold cI
   simp only
   rw [if_neg (bt 34 h1)]
  rw [h2];rfl
 have hc:c=34:=Classical.byContradiction fun h=>h1 (fun e=>h (eJ 34 e))
 obtain ⟨s,hs⟩:∃ s,s=c::r:=⟨_,rfl⟩
 have hI0:=TkI.init (r:=r) hc
 rw [← hs] at hl hI0
 simp only [← hs]
 refine aG E (X:={ x:Nat × List UInt8 × Nat // TkI s x.1 x.2.1 x.2.2 }) (fun x=>[(0,.d (.str s)),(5,.at [0] 0),(6,.d (i64 x.1.1))]) (fun x=>Ak x.1.2.1) [0,1] (fun x=>s.length-x.1.1) ⟨(1,[],r.length.succ),hI0⟩ (tau [([0],[5])]) ?_ ?_
 ·unfold Ak dq
  simp only [go_sem]
 rintro ⟨⟨i,acc,m⟩,hI⟩ E0
 refine aZ E0 fun Q' hQ E'=>?_
 simp only at hI ⊢
 have hi:=hI.hi
 have ha:=hI.ha
 cases acc with
 | nil =>
   simp only [Ak]
   unfold dq
   simp only [go_sem]
   refine aj E' (fun h1=>?_) (fun h1=>?_)<;>simp only [go_sem]
   rotate_left
   ·rw [hQ]
    simp only [go_sem]
    rw [← hs,hI.fin (by omega)]
    rfl
   have h1':i<s.length:=by omega
   refine ⟨⟨by omega,by omega⟩,?_⟩
   refine aj E' (fun h2=>?_) (fun h2=>?_)<;>simp only [go_sem]
   ·have hmk:=hI.mark h1' (eJ 34 h2)
    refine ab E' [.at [0] 0] dq [0] AH rfl rfl ⟨by simp only [go_sem],by rw [aa];decide⟩ rfl (by unfold dq;simp only [go_sem]) (by unfold dq;simp only [go_sem]) ?_
    rintro _ _ ⟨rfl,rfl⟩
    unfold dq
    simp only [go_sem]
    refine ab E' [.at [0] 0] dq [0] yD rfl rfl ⟨by simp only [go_sem],by rw [aa];decide⟩ rfl (by unfold dq;simp only [go_sem]) (by unfold dq;simp only [go_sem]) ?_
    rintro _ _ ⟨rfl,rfl⟩
    unfold dq
    simp only [go_sem]
    rw [ao ⟨by omega,by omega⟩,hQ]
    simp only [go_sem]
    rw [← hs,hmk]
    rfl
   refine aj E' (fun h3=>?_) (fun h3=>?_)<;>simp only [go_sem]
   ·have h2n:=bt 34 h2
    have h3y:=eJ 92 h3
    rw [ao (n:=(i:Int)+1) ⟨by omega,by omega⟩]
    refine ⟨⟨by omega,by omega⟩,?_⟩
    rw [show ((i:Int)+1).toNat=i+1 by omega,List.take_of_length_le (l:=s.drop (i+1)) (by rw [List.length_drop];omega)]
    have hel:=qj (s.drop (i+1))
    have hbad:=hI.bad h1' h2n h3y
    have hesc:=hI.esc h1' h2n h3y
    rw [List.length_drop] at hel
    refine ag E' (uX (s.drop (i+1)) (by rw [List.length_drop];omega)) rfl rfl (by simp) ?_
    rintro _ rfl
    obtain ⟨y,n,hyn⟩:∃ y n,e7 (s.drop (i+1))=(y,n):=⟨_,_,rfl⟩
    rw [hyn] at hel hbad hesc ⊢
    simp only at hel hbad hesc
    simp only [go_sem]
    refine aj E' (fun h4=>?_) (fun h4=>?_)<;>simp only [go_sem]
    ·rw [hQ]
     simp only [go_sem]
     rw [← hs,hbad (by omega)]
     rfl
    ·have hI2:=hesc (by omega)
     refine ab E' [.at [0] 0,.d (byD y)] dq [0] (rJ y ) rfl rfl ⟨by simp only [go_sem],by rw [aa];decide⟩ rfl (by (unfold dq);simp only [go_sem]) (by (unfold dq);simp only [go_sem]) ?_
     rintro _ _ ⟨rfl,rfl⟩
     unfold sh
     (unfold dq)
     simp only [go_sem]
     rw [ao (n:=(n:Int)+1) ⟨by omega,by omega⟩,ao ⟨by omega,by omega⟩,hQ]
     simp only [go_sem]
     refine ⟨⟨(i+n+1,[]++[y],m-1),hI2⟩,by show s.length-(i+n+1)<_;omega,tau [([1],[46,2])],?_⟩
     rw [show (⟨(i+n+1,[]++[y],m-1),hI2⟩:{ x:Nat × List UInt8 × Nat // TkI s x.1 x.2.1 x.2.2 }).1.2.1=[]++[y] from rfl,ix]
     unfold b7
     simp only [go_sem]
     rw [show ((i+n+1:Nat):Int)=(i:Int)+((n:Int)+1) by omega]
   ·have h2n:=bt 34 h2
    have h3n:=bt 92 h3
    refine ag E' (vq (s.getD i 0)) rfl rfl (by simp) ?_
    rintro _ rfl
    simp only [go_sem]
    refine aI E' (fun h4=>?_) (fun h4=>?_)<;>simp only [go_sem]
    ·have hI2:=hI.plain h1' h2n h3n h4
     refine ab E' [.at [0] 0,.d (byD (s.getD i 0))] dq [0] (rJ (s.getD i 0) ) rfl rfl ⟨by simp only [go_sem],by rw [aa];decide⟩ rfl (by (unfold dq);simp only [go_sem]) (by (unfold dq);simp only [go_sem]) ?_
     rintro _ _ ⟨rfl,rfl⟩
     unfold sh
     (unfold dq)
     simp only [go_sem]
     rw [ao ⟨by omega,by omega⟩,hQ]
     simp only [go_sem]
     refine ⟨⟨(i+1,[]++[s.getD i 0],m-1),hI2⟩,by show s.length-(i+1)<_;omega,tau [([1],[55,2])],?_⟩
     rw [show (⟨(i+1,[]++[s.getD i 0],m-1),hI2⟩:{ x:Nat × List UInt8 × Nat // TkI s x.1 x.2.1 x.2.2 }).1.2.1=[]++[s.getD i 0] from rfl,ix]
     unfold b7
     simp only [go_sem]
     all_goals rfl
    ·rw [hQ]
     simp only [go_sem]
     rw [← hs,hI.odd h1' h2n h3n h4]
     rfl
 | cons a0 acc0 =>
   simp only [Ak]
   obtain ⟨acc,hacc⟩:∃ acc,acc=a0::acc0:=⟨_,rfl⟩
   have hne:acc≠[]:=by rw [hacc];simp
   rw [← hacc] at hI ha
   simp only [← hacc]
   unfold b7
   simp only [go_sem]
   refine aj E' (fun h1=>?_) (fun h1=>?_)<;>simp only [go_sem]
   rotate_left
   ·rw [hQ]
    simp only [go_sem]
    rw [← hs,hI.fin (by omega)]
    rfl
   have h1':i<s.length:=by omega
   refine ⟨⟨by omega,by omega⟩,?_⟩
   refine aj E' (fun h2=>?_) (fun h2=>?_)<;>simp only [go_sem]
   ·have hmk:=hI.mark h1' (eJ 34 h2)
    refine ab E' [.at [0] 0] (b7 acc) [0,1] (yx acc) rfl rfl ⟨by simp only [go_sem],by rw [aa];decide⟩ rfl (by unfold b7;simp only [go_sem]) (by unfold b7;simp only [go_sem]) ?_
    rintro _ _ ⟨rfl,rfl⟩
    unfold b7
    simp only [go_sem]
    refine ⟨Nat.le_refl _,?_⟩
    refine aj E' (fun h5=>?_) (fun h5=>?_)<;>simp only [go_sem]
    ·rw [hQ]
     simp only [go_sem]
     rw [← hs,hmk,if_pos (by omega)]
     rfl
    refine ab E' [.at [0] 0] (b7 acc) [0,1] (AB acc hne (by omega)) rfl rfl ⟨by simp only [go_sem],by rw [aa];decide⟩ rfl (by unfold b7;simp only [go_sem]) (by unfold b7;simp only [go_sem]) ?_
    rintro _ _ ⟨rfl,rfl⟩
    unfold b7
    simp only [go_sem]
    rw [ao ⟨by omega,by omega⟩,hQ]
    simp only [go_sem]
    rw [← hs,hmk,if_neg (by omega)]
    rfl
   refine aj E' (fun h3=>?_) (fun h3=>?_)<;>simp only [go_sem]
   ·have h2n:=bt 34 h2
    have h3y:=eJ 92 h3
    rw [ao (n:=(i:Int)+1) ⟨by omega,by omega⟩]
    refine ⟨⟨by omega,by omega⟩,?_⟩
    rw [show ((i:Int)+1).toNat=i+1 by omega,List.take_of_length_le (l:=s.drop (i+1)) (by rw [List.length_drop];omega)]
    have hel:=qj (s.drop (i+1))
    have hbad:=hI.bad h1' h2n h3y
    have hesc:=hI.esc h1' h2n h3y
    rw [List.length_drop] at hel
    refine ag E' (uX (s.drop (i+1)) (by rw [List.length_drop];omega)) rfl rfl (by simp) ?_
    rintro _ rfl
    obtain ⟨y,n,hyn⟩:∃ y n,e7 (s.drop (i+1))=(y,n):=⟨_,_,rfl⟩
    rw [hyn] at hel hbad hesc ⊢
    simp only at hel hbad hesc
    simp only [go_sem]
    refine aj E' (fun h4=>?_) (fun h4=>?_)<;>simp only [go_sem]
    ·rw [hQ]
     simp only [go_sem]
     rw [← hs,hbad (by omega)]
     rfl
    ·have hI2:=hesc (by omega)
     refine ab E' [.at [0] 0,.d (byD y)] (b7 acc) [0,1] (sI acc y (by omega)) rfl rfl ⟨by simp only [go_sem],by rw [aa];decide⟩ rfl (by (unfold b7);simp only [go_sem]) (by (unfold b7);simp only [go_sem]) ?_
     rintro _ _ ⟨rfl,rfl⟩
     unfold sh
     (unfold b7)
     simp only [go_sem]
     rw [ao (n:=(n:Int)+1) ⟨by omega,by omega⟩,ao ⟨by omega,by omega⟩,hQ]
     simp only [go_sem]
     refine ⟨⟨(i+n+1,acc++[y],m-1),hI2⟩,by show s.length-(i+n+1)<_;omega,tau [([1],[46,2])],?_⟩
     rw [show (⟨(i+n+1,acc++[y],m-1),hI2⟩:{ x:Nat × List UInt8 × Nat // TkI s x.1 x.2.1 x.2.2 }).1.2.1=acc++[y] from rfl,ix]
     unfold b7
     simp only [go_sem]
     rw [show ((i+n+1:Nat):Int)=(i:Int)+((n:Int)+1) by omega]
   ·have h2n:=bt 34 h2
    have h3n:=bt 92 h3
    refine ag E' (vq (s.getD i 0)) rfl rfl (by simp) ?_
    rintro _ rfl
    simp only [go_sem]
    refine aI E' (fun h4=>?_) (fun h4=>?_)<;>simp only [go_sem]
    ·have hI2:=hI.plain h1' h2n h3n h4
     refine ab E' [.at [0] 0,.d (byD (s.getD i 0))] (b7 acc) [0,1] (sI acc (s.getD i 0) (by omega)) rfl rfl ⟨by simp only [go_sem],by rw [aa];decide⟩ rfl (by (unfold b7);simp only [go_sem]) (by (unfold b7);simp only [go_sem]) ?_
     rintro _ _ ⟨rfl,rfl⟩
     unfold sh
     (unfold b7)
     simp only [go_sem]
     rw [ao ⟨by omega,by omega⟩,hQ]
     simp only [go_sem]
     refine ⟨⟨(i+1,acc++[s.getD i 0],m-1),hI2⟩,by show s.length-(i+1)<_;omega,tau [([1],[55,2])],?_⟩
     rw [show (⟨(i+1,acc++[s.getD i 0],m-1),hI2⟩:{ x:Nat × List UInt8 × Nat // TkI s x.1 x.2.1 x.2.2 }).1.2.1=acc++[s.getD i 0] from rfl,ix]
     unfold b7
     simp only [go_sem]
     all_goals rfl
    ·rw [hQ]
     simp only [go_sem]
     rw [← hs,hI.odd h1' h2n h3n h4]
     rfl
end Go.Proofs.YtejpnabbmgpmaaaGreat

namespace Go.Proofs.YtejpnabbmgpmaaaGreat
open Go.Ab
theorem yH {c:UInt8} {n:Nat} (hn:n<256):((c.toNat:Nat):Int)=(n:Int)↔c=UInt8.ofNat n:=by
 constructor
 ·intro h
  apply UInt8.toNat_inj.1
  rw [UInt8.toNat_ofNat']
  omega
 ·rintro rfl
  rw [UInt8.toNat_ofNat']
  omega
theorem rT {c:UInt8} (h:((c.toNat:Nat):Int)<48):bp c=false:=by
 unfold bp;rw [decide_eq_false (by omega)];rfl
theorem mC {c:UInt8} (h:57<((c.toNat:Nat):Int)):bp c=false:=by
 unfold bp;rw [decide_eq_false (p:=c.toNat≤57) (by omega),Bool.and_false]
theorem rX {c:UInt8} (h1:¬ ((c.toNat:Nat):Int)<48) (h2:¬ 57<((c.toNat:Nat):Int)):bp c=true:=by
 unfold bp;rw [decide_eq_true (by omega),decide_eq_true (by omega)];rfl
theorem kg {l:List UInt8} (h:1≤l.length):l.head?=some (l.getD 0 0):=by
 cases l with
 | nil=>simp at h
 | cons c r=>rfl
end Go.Proofs.YtejpnabbmgpmaaaGreat

namespace Go.Proofs.YtejpnabbmgpmaaaGreat
open Go.Ab
theorem wE (s:ByteArray) (pos:Nat) (hb:128≤(s.get! (pos+0)).toNat):58≤(Utf8.decode s pos).1:=by
 unfold Utf8.decode
 simp only [Utf8.runeError]
 repeat' split
 all_goals (try simp only [Bool.and_eq_true,decide_eq_true_eq] at *)
 all_goals omega
theorem nA {l:List UInt8} {pos:Nat} (h:pos<l.length):(Utf8.decode ⟨l.toArray⟩ pos=(l[pos].toNat,1))∨(58≤(Utf8.decode ⟨l.toArray⟩ pos).1∧bp l[pos]=false):=by
 have hs:pos<(⟨l.toArray⟩:ByteArray).size:=by simpa [ByteArray.size] using h
 have e:(⟨l.toArray⟩:ByteArray)[pos]'hs=l[pos]:=by rfl
 have e2:(⟨l.toArray⟩:ByteArray).get! (pos+0)=l[pos]:=by
  show (⟨l.toArray⟩:ByteArray).get! pos=_
  simp [ByteArray.get!,getElem!_pos,h]
 by_cases ha:l[pos].toNat<128
 ·have:=decode_ascii ⟨l.toArray⟩ pos hs (by rw [e];exact ha)
  rw [e] at this
  exact .inl this
 ·refine .inr ⟨wE _ _ (by rw [e2];omega),mC (by omega)⟩
def uh (l:List UInt8):AV:=.tup [.d (i64 (if cH l then -(bK l:Int) else 0)),.d (i64 (if cH l then 0 else 5))]
theorem dW {l:List UInt8} (h:cH l=false):uh l=.tup [.d (i64 0),.d (i64 5)]:=by simp [uh,h]
theorem D0 {c:UInt8} (h:bp c=true):w64 (IntKind.i32.wrap (((c.toNat:Nat):Int)-48))=((c.toNat-48:Nat):Int):=by
 simp only [bp,Bool.and_eq_true,decide_eq_true_eq] at h
 have e:IntKind.i32.wrap (((c.toNat:Nat):Int)-48)=((c.toNat-48:Nat):Int):=by
  simp only [IntKind.wrap,IntKind.bits,IntKind.signed]
  simp
  split<;>omega
 rw [e,ao ⟨by omega,by omega⟩]
theorem zD {d:Nat} (h:d≤9):w64 ((w64 (-9223372036854775808+((d:Nat):Int))).tdiv 10) = -(((9223372036854775808-d) / 10:Nat):Int):=by
 have h1:w64 (-9223372036854775808+((d:Nat):Int)) = -9223372036854775808+((d:Nat):Int):=ao ⟨by omega,by omega⟩
 rw [h1]
 have h2:=Es (-9223372036854775808+((d:Nat):Int))
 rw [if_pos (by omega)] at h2
 rw [h2,ao ⟨by omega,by omega⟩]
 omega
theorem uD {G} (l:List UInt8):HP Tryz.prog G 298 [.str l] (fun r=>r=uh l):=by
 refine al Tryz.func298 rfl (by decide +kernel) (by simp [Tryz.ntmps298]) (veil fun E=>?_)
 simp only [go_sem]
 refine cY E (fun h0=>?_) (fun h0=>?_)<;>simp only [go_sem]
 ·have:l=[]:=by simpa using h0
  subst this;rfl
 have h0:1≤l.length:=by
  cases l with
  | nil=>simp at h0
  | cons c r=>simp
 refine aD E (fun h1=>?_) (fun h1=>?_)<;>simp only [go_sem]
 ·refine ⟨by omega,?_⟩
  refine aj E (fun h4=>?_) (fun h4=>?_)<;>simp only [go_sem]
  ·have:cH l=false:=tW (by omega) (by rw [kg (by omega)];congr 1;exact (yH (n:=48) (by omega)).1 h4)
   rw [dW this]
  ·refine sj E l (by rw [ti9]) rfl (by simp) (by simp [aa]) ?_
   simp only [go_sem]
   refine eS E (X:={ i:Nat // i≤l.length∧(l.take i).all bp=true∧bK (l.take i)≤9223372036854775808 }) (fun x=>[(0,.d (.str l)),(4,.d (i64 (-(bK (l.take x.1):Nat)))),(21,.it [21])]) (fun x=>[([21],.siter l x.1)]) [21] (fun x=>l.length-x.1) ⟨0,by simp,by simp,by simp [bK]⟩ ?_ ?_
   ·simp only [go_sem]
    simp [bK]
   rintro ⟨i,hi,hall,hvi⟩ E0
   refine aZ E0 fun Q' hQ E'=>?_
   simp only at hi hall hvi ⊢
   simp only [go_sem]
   refine vS E' [21] l i rfl rfl (by simp) (fun hi'=>?_) (fun hi'=>?_)<;>simp only [go_sem]
   ·rcases nA hi' with e | ⟨e1,e2⟩
    ·rw [e]
     refine aD E' (fun h7=>?_) (fun h7=>?_)<;>simp only [go_sem]
     ·rw [hQ]
      simp only [go_sem]
      rw [dW (fC hi' (rT h7))]
     refine aj E' (fun h8=>?_) (fun h8=>?_)<;>simp only [go_sem]
     ·rw [hQ]
      simp only [go_sem]
      rw [dW (fC hi' (mC h8))]
     have hd:=rX h7 h8
     have hdv:l[i].toNat-48≤9:=by
      simp only [bp,Bool.and_eq_true,decide_eq_true_eq] at hd
      omega
     rw [D0 hd,zD hdv]
     refine aj E' (fun h9=>?_) (fun h9=>?_)<;>simp only [go_sem]
     ·rw [hQ]
      simp only [go_sem]
      rw [dW (n5 (i:=i+1) (by rw [ei hi'];omega))]
     ·rw [hQ]
      simp only [go_sem]
      have hle:10*bK (l.take i)+(l[i].toNat-48)≤9223372036854775808:=by omega
      refine ⟨⟨i+1,by omega,sD hi' hall hd,by rw [ei hi'];exact hle⟩,by show l.length-(i+1)<_;omega,?_,rfl⟩
      show AV.d (D.int IntKind.i64 _)=AV.d (i64 (-((bK (l.take (i+1)):Nat):Int)))
      rw [ei hi']
      congr 2
      simp only [lF]
      repeat' split
      all_goals omega
    ·refine aD E' (fun h7=>?_) (fun h7=>?_)<;>simp only [go_sem]
     ·omega
     refine aj E' (fun h8=>?_) (fun h8=>?_)<;>simp only [go_sem]
     ·rw [hQ]
      simp only [go_sem]
      rw [dW (fC hi' e2)]
     ·omega
   ·rw [hQ]
    simp only [go_sem]
    have hil:i=l.length:=by omega
    subst hil
    rw [List.take_length] at hall hvi ⊢
    have hlead:¬ (1<l.length∧l.head?=some 48):=by
     rintro ⟨g1,g2⟩
     first
      | exact h4 ((yH (n:=48) (by omega)).2 (by rw [kg (by omega)] at g2;exact Option.some.inj g2))
      | omega
    have hok:=oU h0 hlead hall hvi
    simp [uh,hok]
 ·refine sj E l (by rw [ti9]) rfl (by simp) (by simp [aa]) ?_
  simp only [go_sem]
  refine eS E (X:={ i:Nat // i≤l.length∧(l.take i).all bp=true∧bK (l.take i)≤9223372036854775808 }) (fun x=>[(0,.d (.str l)),(4,.d (i64 (-(bK (l.take x.1):Nat)))),(21,.it [21])]) (fun x=>[([21],.siter l x.1)]) [21] (fun x=>l.length-x.1) ⟨0,by simp,by simp,by simp [bK]⟩ ?_ ?_
  ·simp only [go_sem]
   simp [bK]
  rintro ⟨i,hi,hall,hvi⟩ E0
  refine aZ E0 fun Q' hQ E'=>?_
  simp only at hi hall hvi ⊢
  simp only [go_sem]
  refine vS E' [21] l i rfl rfl (by simp) (fun hi'=>?_) (fun hi'=>?_)<;>simp only [go_sem]
  ·rcases nA hi' with e | ⟨e1,e2⟩
   ·rw [e]
    refine aD E' (fun h7=>?_) (fun h7=>?_)<;>simp only [go_sem]
    ·rw [hQ]
     simp only [go_sem]
     rw [dW (fC hi' (rT h7))]
    refine aj E' (fun h8=>?_) (fun h8=>?_)<;>simp only [go_sem]
    ·rw [hQ]
     simp only [go_sem]
     rw [dW (fC hi' (mC h8))]
    have hd:=rX h7 h8
    have hdv:l[i].toNat-48≤9:=by
     simp only [bp,Bool.and_eq_true,decide_eq_true_eq] at hd
     omega
    rw [D0 hd,zD hdv]
    refine aj E' (fun h9=>?_) (fun h9=>?_)<;>simp only [go_sem]
    ·rw [hQ]
     simp only [go_sem]
     rw [dW (n5 (i:=i+1) (by rw [ei hi'];omega))]
    ·rw [hQ]
     simp only [go_sem]
     have hle:10*bK (l.take i)+(l[i].toNat-48)≤9223372036854775808:=by omega
     refine ⟨⟨i+1,by omega,sD hi' hall hd,by rw [ei hi'];exact hle⟩,by show l.length-(i+1)<_;omega,?_,rfl⟩
     show AV.d (D.int IntKind.i64 _)=AV.d (i64 (-((bK (l.take (i+1)):Nat):Int)))
     rw [ei hi']
     congr 2
     simp only [lF]
     repeat' split
     all_goals omega
   ·refine aD E' (fun h7=>?_) (fun h7=>?_)<;>simp only [go_sem]
    ·omega
    refine aj E' (fun h8=>?_) (fun h8=>?_)<;>simp only [go_sem]
    ·rw [hQ]
     simp only [go_sem]
     rw [dW (fC hi' e2)]
    ·omega
  ·rw [hQ]
   simp only [go_sem]
   have hil:i=l.length:=by omega
   subst hil
   rw [List.take_length] at hall hvi ⊢
   have hlead:¬ (1<l.length∧l.head?=some 48):=by
    rintro ⟨g1,g2⟩
    first
     | exact h4 ((yH (n:=48) (by omega)).2 (by rw [kg (by omega)] at g2;exact Option.some.inj g2))
     | omega
   have hok:=oU h0 hlead hall hvi
   simp [uh,hok]
end Go.Proofs.YtejpnabbmgpmaaaGreat

namespace Go.Proofs.YtejpnabbmgpmaaaGreat
open Go.Ab
theorem qY {l:List UInt8} (h:cH l=true):bK l≤9223372036854775808:=by
 simp only [cH,Bool.and_eq_true,decide_eq_true_eq] at h
 exact h.2
theorem neg_zero {l:List UInt8} (h:bK l=0):cz true l=.tup [.d (i64 0),.d (i64 5)]:=fP (by simp [bQ,h])
theorem zu {l:List UInt8} (hd:cH l=true) (h:bK l≠0):cz true l=.tup [.d (i64 (-(bK l:Int))),.d (i64 0)]:=by
 have:bQ true l=true:=by simp [bQ,hd,h]
 simp [cz,this]
theorem Fa {G} (s:List UInt8) (hp:bb s [126]=true):HP Tryz.prog G 267 [.str s] (fun r=>r=cz true (s.drop 1)):=by
 refine al Tryz.func267 rfl (by decide +kernel) (by simp [Tryz.ntmps267]) (veil fun E=>?_)
 simp only [go_sem]
 refine ag E (uZ s [126]) rfl rfl (by simp) ?_
 rintro _ rfl
 simp only [hp,List.length_cons,List.length_nil]
 simp only [go_sem]
 refine ag E (uD (s.drop 1)) rfl rfl (by simp) ?_
 rintro _ rfl
 simp only [uh]
 by_cases hd:cH (s.drop 1)=true
 ·have hle:=qY hd
  simp only [hd,if_true]
  simp only [go_sem]
  refine aD E (fun h1=>?_) (fun h1=>?_)<;>simp only [go_sem]
  ·rw [neg_zero (by omega)]
  ·rw [zu hd (by omega)]
 ·simp only [hd,if_false]
  simp only [go_sem]
  rw [fP (mX (by simpa using hd))]
theorem Eh {G} (s:List UInt8) (hp:bb s [126]=false):HP Tryz.prog G 267 [.str s] (fun r=>r=cz false s):=by
 refine al Tryz.func267 rfl (by decide +kernel) (by simp [Tryz.ntmps267]) (veil fun E=>?_)
 simp only [go_sem]
 refine ag E (uZ s [126]) rfl rfl (by simp) ?_
 rintro _ rfl
 simp only [hp,List.length_cons,List.length_nil]
 simp only [go_sem]
 refine ag E (uD s) rfl rfl (by simp) ?_
 rintro _ rfl
 simp only [uh]
 by_cases hd:cH s=true
 ·have hle:=qY hd
  simp only [hd,if_true]
  simp only [go_sem]
  refine aj E (fun h1=>?_) (fun h1=>?_)<;>simp only [go_sem]
  ·have:bQ false s=false:=by simp [bQ];intro _;omega
   rw [fP this]
  ·have:bQ false s=true:=by simp [bQ,hd];omega
   simp [cz,this]
   rw [ao ⟨by omega,by omega⟩]
 ·simp only [hd,if_false]
  simp only [go_sem]
  rw [fP (mX (by simpa using hd))]
theorem vU {G} (s:List UInt8):HP Tryz.prog G 267 [.str s] (fun r=>r=p6 s):=by
 unfold p6
 cases hp:bb s [126] with
 | true=>exact Fa s hp
 | false=>exact Eh s hp
end Go.Proofs.YtejpnabbmgpmaaaGreat

namespace Go.Proofs.YtejpnabbmgpmaaaGreat
open Go.Ab
theorem yX {c:UInt8} (h1:65≤((c.toNat:Nat):Int)) (h2:((c.toNat:Nat):Int)≤90):gr c=true:=by
 show (decide (65≤((c.toNat:Nat):Int)) && decide (((c.toNat:Nat):Int)≤90))=true
 simp [h1,h2]
theorem AI {c:UInt8} (h1:¬ 65≤((c.toNat:Nat):Int)):¬ gr c=true:=by
 show ¬ (decide (65≤((c.toNat:Nat):Int)) && decide (((c.toNat:Nat):Int)≤90))=true
 simp [h1]
theorem y2 {c:UInt8} (h2:¬ ((c.toNat:Nat):Int)≤90):¬ gr c=true:=by
 show ¬ (decide (65≤((c.toNat:Nat):Int)) && decide (((c.toNat:Nat):Int)≤90))=true
 simp [h2]
theorem B8 {G} (s:List UInt8) (n:Nat) (_hl:s.length≤1000000) (h1:1≤n) (hn:n≤s.length):HP Tryz.prog G 216 [.str s,i64 n] (fun r=>r=.d (pa (mE s n))):=by
 refine al Tryz.func216 rfl (by decide +kernel) (by simp [Tryz.ntmps216]) (veil fun E=>?_)
 simp only [go_sem]
 refine ⟨⟨by omega,by omega⟩,?_⟩
 rw [Nat.sub_zero]
 have hw:(s.take n).length=n:=by rw [List.length_take];omega
 obtain ⟨w,hwd⟩:∃ w,w=s.take n:=⟨_,rfl⟩
 rw [← hwd] at hw
 have hdef:mE s n=if 20<n then dB 7 else if B9 w then ⟨⟨1,w,0,0⟩,n,0⟩ else if gr (w.getD 0 0) then ⟨⟨3,w,0,0⟩,n,0⟩ else ⟨⟨2,w,0,0⟩,n,0⟩:=by rw [hwd];rfl
 rw [← hwd]
 refine aj E (fun h2=>?_) (fun h2=>?_)<;>simp only [go_sem]
 ·rw [hdef,if_pos (by omega)];rfl
 rw [if_neg (by omega)] at hdef
 refine ag E (vn w) rfl rfl (by simp) ?_
 rintro _ rfl
 simp only [go_sem]
 refine aI E (fun h3=>?_) (fun h3=>?_)<;>simp only [go_sem]
 ·rw [hdef,if_pos h3];rfl
 rw [if_neg (by rw [h3];simp)] at hdef
 refine ⟨by omega,?_⟩
 refine aD E (fun h4=>?_) (fun h4=>?_)<;>simp only [go_sem]
 ·refine ⟨by omega,?_⟩
  refine aj E (fun h5=>?_) (fun h5=>?_)<;>simp only [go_sem]
  ·rw [hdef,if_pos (yX h4 h5)];rfl
  ·rw [hdef,if_neg (y2 h5)];rfl
 ·rw [hdef,if_neg (AI h4)];rfl
theorem vk {G} (c:UInt8):HP Tryz.prog G 218 [u8 c] (fun r=>r=.d (.bool (bp c))):=by
 unfold u8
 refine al Tryz.func218 rfl (by decide +kernel) (by simp [Tryz.ntmps218]) (veil fun E=>?_)
 simp only [go_sem]
 repeat (first
  | (apply gw E;(· simp only [go_sem]);(· intro h;(try simp only [bq] at h);simp only [↓h,go_sem];rfl);simp only [go_sem])
  | (apply cS E;(· simp only [go_sem]);(· intro h;(try simp only [bq] at h);simp only [↓h,go_sem];rfl);(· intro h;(try simp only [bq] at h);simp only [↓h,go_sem];rfl);simp only [go_sem])
  | (apply cL E;(· simp only [go_sem]);(· rfl);(· intro h h';(try simp only [bq] at h h');simp only [↓h,↓h',go_sem];rfl);simp only [go_sem])
  | (apply bG E;(· simp only [go_sem]);(· rfl);(· intro h h';(try simp only [bq] at h h');simp only [↓h,↓h',go_sem];rfl);(· intro h h';(try simp only [bq] at h h');simp only [↓h,↓h',go_sem];rfl);simp only [go_sem])
  | (apply eU E;(· decide);simp only [go_sem]))
 have hp:(decide (48≤((c.toNat:Nat):Int)) && decide (((c.toNat:Nat):Int)≤57))=bp c:=by
  unfold bp
  rw [Bool.eq_iff_iff];simp;omega
 rw [hp]
theorem Dw {G} (s:List UInt8) (hl:s.length≤1000000):HP Tryz.prog G 220 [.str s] (fun r=>r=.d (pa (qP s))):=by
 refine al Tryz.func220 rfl (by decide +kernel) (by simp [Tryz.ntmps220]) (veil fun E=>?_)
 simp only [go_sem]
 refine ag E (DA s hl) rfl rfl (by simp) ?_
 rintro _ rfl
 simp only [go_sem]
 rfl
theorem wa (s:List UInt8):p6 s=.tup [.d (i64 (A4 s).1),.d (i64 (A4 s).2)]:=by
 unfold p6 A4
 have key:∀ (b:Bool) (l:List UInt8),cz b l=.tup [.d (i64 (ru b l).1),.d (i64 (ru b l).2)]:=fun b l=>by
  unfold cz ru
  cases bQ b l<;>rfl
 split<;>exact key _ _
theorem wm {s:List UInt8} {n:Nat} (h:n<s.length):jt (s.drop n)=if bp (s.getD n 0) then jt (s.drop (n+1))+1 else 0:=by
 rw [List.drop_eq_getElem_cons h,jt]
 simp [h]
theorem Bu {G} (s:List UInt8) (hl:s.length≤1000000) (h0:1≤s.length):HP Tryz.prog G 219 [.str s] (fun r=>r=.d (pa (AW s))):=by
 refine al Tryz.func219 rfl (by decide +kernel) (by simp [Tryz.ntmps219]) (veil fun E=>?_)
 simp only [go_sem]
 have hle:=qn (s.drop 1)
 rw [List.length_drop] at hle
 refine aG E (X:={ n:Nat // 1≤n∧n≤s.length∧n+jt (s.drop n)=jt (s.drop 1)+1 }) (fun x=>[(0,.d (.str s)),(2,.at [2] 0),(3,.d (i64 x.1))]) (fun x=>[([2],.box [.d (i64 0),.d (.str []),.d (i64 0),.d (i64 0),.d (i64 0),.d (i64 0)])]) [2] (fun x=>s.length-x.1) ⟨1,by omega,by omega,by omega⟩ id ?_ ?_
 ·simp only [go_sem]
  all_goals rfl
 rintro ⟨n,hn1,hn2,hn3⟩ E0
 refine aZ E0 fun Q' hQ E'=>?_
 simp only at hn1 hn2 hn3 ⊢
 simp only [go_sem]
 refine aD E' (fun h1=>?_) (fun h1=>?_)<;>simp only [go_sem]
 ·have h1':n<s.length:=by omega
  refine ⟨⟨by omega,by omega⟩,?_⟩
  refine ag E' (vk (s.getD n 0)) rfl rfl (by simp) ?_
  rintro _ rfl
  simp only [go_sem]
  have hd:=wm h1'
  refine aI E' (fun h2=>?_) (fun h2=>?_)<;>simp only [go_sem]
  ·rw [ao ⟨by omega,by omega⟩,hQ]
   simp only [go_sem]
   rw [h2,if_pos rfl] at hd
   refine ⟨⟨n+1,by omega,by omega,by omega⟩,by show s.length-(n+1)<_;omega,id,?_⟩
   simp only [go_sem]
   rfl
  ·rw [h2] at hd
   have hn4:n=jt (s.drop 1)+1:=by simp at hd;omega
   rw [hQ]
   simp only [go_sem]
   refine ⟨⟨by omega,by omega⟩,?_⟩
   rw [Nat.sub_zero]
   refine ag E (vU (s.take n)) rfl rfl (by simp) ?_
   rintro _ rfl
   rw [wa]
   simp only [go_sem]
   rw [hn4]
   rfl
 ·have hn4:n=jt (s.drop 1)+1:=by
   have:n=s.length:=by omega
   rw [this,List.drop_length] at hn3
   simp [jt] at hn3
   omega
  rw [hQ]
  simp only [go_sem]
  refine ⟨⟨by omega,by omega⟩,?_⟩
  rw [Nat.sub_zero]
  refine ag E (vU (s.take n)) rfl rfl (by simp) ?_
  rintro _ rfl
  rw [wa]
  simp only [go_sem]
  rw [hn4]
  rfl
theorem Di {G} (s:List UInt8) (hl:s.length≤1000000) (h0:1≤s.length):HP Tryz.prog G 217 [.str s] (fun r=>r=.d (pa (rf s))):=by
 have hwl:=jS (s.drop 1)
 rw [List.length_drop] at hwl
 refine al Tryz.func217 rfl (by decide +kernel) (by simp [Tryz.ntmps217]) (veil fun E=>?_)
 simp only [go_sem]
 refine ⟨⟨by omega,by omega⟩,?_⟩
 rw [List.take_of_length_le (l:=s.drop 1) (by rw [List.length_drop];omega)]
 refine ag E (pJ (s.drop 1) (by rw [List.length_drop];omega)) rfl rfl (by simp) ?_
 rintro _ rfl
 simp only [go_sem]
 have hdef:rf s=if b6 (s.drop 1)=0∨gr (s.getD 1 0) then dB 5 else if 20<b6 (s.drop 1) then dB 7 else ⟨⟨6,(s.drop 1).take (b6 (s.drop 1)),0,0⟩,b6 (s.drop 1)+1,0⟩:=rfl
 generalize b6 (s.drop 1)=n at hdef hwl
 refine aD E (fun h1=>?_) (fun h1=>?_)<;>simp only [go_sem]
 ·rw [hdef,if_pos (.inl (by omega))];rfl
 refine ⟨by omega,?_⟩
 have more:∀ h:¬ gr (s.getD 1 0)=true,rf s=if 20<n then dB 7 else ⟨⟨6,(s.drop 1).take n,0,0⟩,n+1,0⟩:=fun h=>by rw [hdef,if_neg (fun e=>e.elim (by omega) h)]
 refine aD E (fun h2=>?_) (fun h2=>?_)<;>simp only [go_sem]
 ·refine ⟨by omega,?_⟩
  refine aj E (fun h3=>?_) (fun h3=>?_)<;>simp only [go_sem]
  ·rw [hdef,if_pos (.inr (yX h2 h3))];rfl
  have hm:=more (y2 h3)
  refine aj E (fun h4=>?_) (fun h4=>?_)<;>simp only [go_sem]
  ·rw [hm,if_pos (by omega)];rfl
  rw [ao ⟨by omega,by omega⟩]
  refine ⟨⟨by omega,by omega⟩,?_⟩
  rw [hm,if_neg (by omega),show ((n:Int)+1).toNat-1=n by omega]
  rfl
 ·have hm:=more (AI h2)
  refine aj E (fun h4=>?_) (fun h4=>?_)<;>simp only [go_sem]
  ·rw [hm,if_pos (by omega)];rfl
  rw [ao ⟨by omega,by omega⟩]
  refine ⟨⟨by omega,by omega⟩,?_⟩
  rw [hm,if_neg (by omega),show ((n:Int)+1).toNat-1=n by omega]
  rfl
theorem C4 {G} (s:List UInt8) (hl:s.length≤1000000) (h0:1≤s.length):HP Tryz.prog G 221 [.str s] (fun r=>r=.d (pa (mA s))):=by
 refine al Tryz.func221 rfl (by decide +kernel) (by simp [Tryz.ntmps221]) (veil fun E=>?_)
 simp only [go_sem]
 refine ag E (vG s [45,62]) rfl rfl (by simp) ?_
 rintro _ rfl
 simp only [go_sem]
 have hdef:mA s=if bb s [45,62] || bb s [61,61] then ⟨⟨7,s.take 2,0,0⟩,2,0⟩ else if Lib.indexByte zX (s.getD 0 0)<0 then dB 5 else ⟨⟨7,s.take 1,0,0⟩,1,0⟩:=rfl
 refine cY E (fun h1=>?_) (fun h1=>?_)<;>simp only [go_sem]
 ·have:=gb h1
  simp only [List.length_cons,List.length_nil] at this
  refine ⟨by omega,?_⟩
  rw [hdef,h1];rfl
 refine ag E (vG s [61,61]) rfl rfl (by simp) ?_
 rintro _ rfl
 simp only [go_sem]
 refine aI E (fun h2=>?_) (fun h2=>?_)<;>simp only [go_sem]
 ·have:=gb h2
  simp only [List.length_cons,List.length_nil] at this
  refine ⟨by omega,?_⟩
  rw [hdef,h2,Bool.or_true];rfl
 rw [h1,h2,Bool.or_false,if_neg (by simp)] at hdef
 refine ⟨by omega,?_⟩
 refine ag E (jo zX (s.getD 0 0)) rfl rfl (by simp) ?_
 rintro _ rfl
 simp only [go_sem]
 refine aj E (fun h3=>?_) (fun h3=>?_)<;>simp only [go_sem]
 ·rw [hdef,if_pos h3];rfl
 refine ⟨by omega,?_⟩
 rw [hdef,if_neg h3];rfl
end Go.Proofs.YtejpnabbmgpmaaaGreat

namespace Go.Proofs.YtejpnabbmgpmaaaGreat
open Go.Ab
theorem gH (f:Fnd):pa f=.agg [i64 f.t.k,.str f.t.s,i64 f.t.n,i64 f.t.pos,i64 f.n,i64 f.e]:=rfl
theorem CG {G} (s:List UInt8) (hl:s.length≤1000000) (h0:1≤s.length):HP Tryz.prog G 146 [.str s] (fun r=>r=.d (pa (dm s))):=by
 have hwl:=jS s
 refine al Tryz.func146 rfl (by decide +kernel) (by simp [Tryz.ntmps146]) (veil fun E=>?_)
 simp only [go_sem]
 refine ag E (pJ s (by omega)) rfl rfl (by simp) ?_
 rintro _ rfl
 simp only [go_sem]
 have hdef:dm s=if 0<b6 s then mE s (b6 s) else if s.getD 0 0=39 then rf s else if bp (s.getD 0 0) || decide (s.getD 0 0=126) then AW s else if s.getD 0 0=34 then qP s else mA s:=rfl
 generalize b6 s=n at hdef hwl
 generalize hc:s.getD 0 0=c at hdef
 refine aj E (fun h1=>?_) (fun h1=>?_)<;>simp only [go_sem]
 ·refine ag E (B8 s n hl (by omega) hwl) rfl rfl (by simp) ?_
  rintro _ rfl
  rw [gH (mE s n)]
  simp only [go_sem]
  rw [hdef,if_pos (by omega)];rfl
 rw [if_neg (by omega)] at hdef
 refine ⟨by omega,?_⟩
 rw [hc]
 refine aj E (fun h2=>?_) (fun h2=>?_)<;>simp only [go_sem]
 ·refine ag E (Di s hl h0) rfl rfl (by simp) ?_
  rintro _ rfl
  rw [gH (rf s)]
  simp only [go_sem]
  rw [hdef,if_pos (eJ 39 h2)];rfl
 rw [if_neg (bt 39 h2)] at hdef
 refine ag E (vk c) rfl rfl (by simp) ?_
 rintro _ rfl
 simp only [go_sem]
 repeat (first
  | (apply gw E;(· simp only [go_sem]);(· intro h;(try simp only [bq] at h);simp only [↓h,go_sem];rfl);simp only [go_sem])
  | (apply cS E;(· simp only [go_sem]);(· intro h;(try simp only [bq] at h);simp only [↓h,go_sem];rfl);(· intro h;(try simp only [bq] at h);simp only [↓h,go_sem];rfl);simp only [go_sem])
  | (apply cL E;(· simp only [go_sem]);(· rfl);(· intro h h';(try simp only [bq] at h h');simp only [↓h,↓h',go_sem];rfl);simp only [go_sem])
  | (apply bG E;(· simp only [go_sem]);(· rfl);(· intro h h';(try simp only [bq] at h h');simp only [↓h,↓h',go_sem];rfl);(· intro h h';(try simp only [bq] at h h');simp only [↓h,↓h',go_sem];rfl);simp only [go_sem])
  | (apply eU E;(· decide);simp only [go_sem]))
 refine aI E (fun h3=>?_) (fun h3=>?_)<;>simp only [go_sem]
 ·refine ag E (Bu s hl h0) rfl rfl (by simp) ?_
  rintro _ rfl
  rw [gH (AW s)]
  simp only [go_sem]
  have h4:(bp c || decide (c=126))=true:=by
   simp only [Bool.or_eq_true,decide_eq_true_eq] at h3 ⊢
   rcases h3 with h3 | h3
   ·exact .inl h3
   ·exact .inr (eJ 126 h3)
  rw [hdef,if_pos h4];rfl
 have h4:¬ (bp c || decide (c=126))=true:=by
  simp only [Bool.or_eq_false_iff,decide_eq_false_iff_not] at h3
  simp only [Bool.or_eq_true,decide_eq_true_eq,not_or]
  exact ⟨by rw [h3.1];simp,bt 126 h3.2⟩
 rw [if_neg h4] at hdef
 refine aj E (fun h5=>?_) (fun h5=>?_)<;>simp only [go_sem]
 ·refine ag E (Dw s hl) rfl rfl (by simp) ?_
  rintro _ rfl
  rw [gH (qP s)]
  simp only [go_sem]
  rw [hdef,if_pos (eJ 34 h5)];rfl
 rw [if_neg (bt 34 h5)] at hdef
 refine ag E (C4 s hl h0) rfl rfl (by simp) ?_
 rintro _ rfl
 rw [gH (mA s)]
 simp only [go_sem]
 rw [hdef];rfl
theorem uJ:∀ l:List UInt8,Lib.indexByte l 10=match gF l with
  | none=>-1
  | some k=>(k:Int)
 | []=>rfl
 | c::r=>by
   unfold Lib.indexByte gF
   by_cases h:c=10
   ·simp [h]
   ·rw [if_neg (by simpa using h),if_neg h,uJ r]
    cases gF r with
    | none=>rfl
    | some k =>
      simp only [Option.map_some]
      rw [if_neg (by simp)]
      show (k:Int)+1=((k+1:Nat):Int)
      omega
theorem pY:∀ {l:List UInt8} {k:Nat},gF l=some k→k<l.length
 | [],_,h=>by cases h
 | c::r,k,h=>by
   unfold gF at h
   split at h
   ·cases h;simp
   ·obtain ⟨j,hj,rfl⟩:=Option.map_eq_some_iff.1 h
    have:=pY hj
    simp only [List.length_cons];omega
theorem zV {c:UInt8} {r:List UInt8} {k:Nat} (hc:¬ c=10) (h:gF (c::r)=some k):1≤k:=by
 unfold gF at h
 rw [if_neg hc] at h
 obtain ⟨j,_,rfl⟩:=Option.map_eq_some_iff.1 h
 omega
theorem qM (c:UInt8):0≤Lib.indexByte tY c↔c=32∨c=9∨c=10:=by
 unfold tY
 by_cases h1:c=32
 ·subst h1;decide
 by_cases h2:c=9
 ·subst h2;decide
 by_cases h3:c=10
 ·subst h3;decide
 simp [Lib.indexByte,Ne.symm h1,Ne.symm h2,Ne.symm h3,h1,h2,h3]
structure PaI (s:List UInt8) (n m:Nat):Prop where
 hn:n≤s.length
 hm:(s.drop n).length<m
 he:n+iL m (s.drop n)=bh s
theorem PaI.init (s:List UInt8):PaI s 0 s.length.succ:=⟨Nat.zero_le _,by simp,by simp [bh]⟩
theorem PaI.fin {s:List UInt8} {n m:Nat} (h:PaI s n m) (hn:s.length≤n):bh s=n:=by
 rw [← h.he,List.drop_eq_nil_of_le hn]
 cases m<;>rfl
theorem PaI.cases {s:List UInt8} {n m:Nat} (h:PaI s n m) (hi:n<s.length):∃ m',m=m'+1∧s.drop n=s.getD n 0::s.drop (n+1):=by
 obtain ⟨m',rfl⟩:∃ m',m=m'+1:=⟨m-1,by have:=h.hm;omega⟩
 exact ⟨m',rfl,by rw [List.drop_eq_getElem_cons hi];simp [hi]⟩
theorem PaI.blank {s:List UInt8} {n m:Nat} (h:PaI s n m) (hi:n<s.length) (hb:s.getD n 0=32∨s.getD n 0=9∨s.getD n 0=10):PaI s (n+1) (m-1):=by
 obtain ⟨m',rfl,hd⟩:=h.cases hi
 have hm:=h.hm
 rw [List.length_drop] at hm
 refine ⟨by omega,by rw [List.length_drop];omega,?_⟩
 rw [← h.he,hd,iL,if_pos hb,Nat.add_sub_cancel]
 omega
theorem PaI.stop {s:List UInt8} {n m:Nat} (h:PaI s n m) (hi:n<s.length) (hb:¬ (s.getD n 0=32∨s.getD n 0=9∨s.getD n 0=10)) (hr:¬ s.getD n 0=35):bh s=n:=by
 obtain ⟨m',rfl,hd⟩:=h.cases hi
 rw [← h.he,hd,iL,if_neg hb,if_neg hr]
 omega
theorem PaI.none {s:List UInt8} {n m:Nat} (h:PaI s n m) (hi:n<s.length) (hb:¬ (s.getD n 0=32∨s.getD n 0=9∨s.getD n 0=10)) (hr:s.getD n 0=35) (hf:gF (s.drop n)=none):bh s=s.length:=by
 obtain ⟨m',rfl,hd⟩:=h.cases hi
 rw [hd] at hf
 rw [← h.he,hd,iL,if_neg hb,if_pos hr,hf,← hd]
 simp only [List.length_drop]
 omega
theorem PaI.some {s:List UInt8} {n m k:Nat} (h:PaI s n m) (hi:n<s.length) (hb:¬ (s.getD n 0=32∨s.getD n 0=9∨s.getD n 0=10)) (hr:s.getD n 0=35) (hf:gF (s.drop n)=some k):PaI s (n+k) (m-1)∧1≤k:=by
 obtain ⟨m',rfl,hd⟩:=h.cases hi
 have hk:=pY hf
 have h1:1≤k:=by
  rw [hd] at hf
  exact zV (by rw [hr];decide) hf
 have hm:=h.hm
 rw [List.length_drop] at hm hk
 refine ⟨⟨by omega,by rw [List.length_drop];omega,?_⟩,h1⟩
 rw [hd] at hf
 rw [← h.he,hd,iL,if_neg hb,if_pos hr,hf,← hd]
 simp only [List.drop_drop,Nat.add_sub_cancel]
 omega
theorem uQ {G} (s:List UInt8) (hl:s.length≤1000000):HP Tryz.prog G 145 [.str s] (fun r=>r=.d (i64 (bh s))):=by
 refine al Tryz.func145 rfl (by decide +kernel) (by simp [Tryz.ntmps145]) (veil fun E=>?_)
 simp only [go_sem]
 refine aG E (X:={ x:Nat × Nat // PaI s x.1 x.2 }) (fun x=>[(0,.d (.str s)),(3,.d (i64 x.1.1))]) (fun _=>[]) [] (fun x=>s.length-x.1.1) ⟨(0,_),PaI.init s⟩ id ?_ ?_
 ·simp only [go_sem]
  all_goals rfl
 rintro ⟨⟨n,m⟩,hI⟩ E0
 refine aZ E0 fun Q' hQ E'=>?_
 simp only at hI ⊢
 have hn:=hI.hn
 simp only [go_sem]
 refine aj E' (fun h1=>?_) (fun h1=>?_)<;>simp only [go_sem]
 rotate_left
 ·rw [hQ]
  simp only [go_sem]
  rw [hI.fin (by omega)]
 have h1':n<s.length:=by omega
 refine ⟨⟨by omega,by omega⟩,?_⟩
 refine ag E' (jo tY (s.getD n 0)) rfl rfl (by simp) ?_
 rintro _ rfl
 simp only [go_sem]
 refine aj E' (fun h2=>?_) (fun h2=>?_)<;>simp only [go_sem]
 ·have hI2:=hI.blank h1' ((qM _).1 h2)
  rw [ao ⟨by omega,by omega⟩,hQ]
  simp only [go_sem]
  refine ⟨⟨(n+1,m-1),hI2⟩,by show s.length-(n+1)<_;omega,id,?_⟩
  simp only [go_sem]
  rfl
 have h2n:¬ (s.getD n 0=32∨s.getD n 0=9∨s.getD n 0=10):=fun h=>h2 ((qM _).2 h)
 refine ⟨⟨by omega,by omega⟩,?_⟩
 refine aj E' (fun h3=>?_) (fun h3=>?_)<;>simp only [go_sem]
 rotate_left
 ·rw [hQ]
  simp only [go_sem]
  rw [hI.stop h1' h2n (bt 35 h3)]
 have h3y:=eJ 35 h3
 refine ⟨⟨by omega,by omega⟩,?_⟩
 rw [List.take_of_length_le (l:=s.drop n) (by rw [List.length_drop];omega)]
 refine ag E' (jo (s.drop n) 10) rfl rfl (by simp) ?_
 rintro _ rfl
 rw [uJ]
 cases hf:gF (s.drop n) with
 | none =>
   simp only [go_sem]
   rw [hQ]
   simp only [go_sem]
   rw [hI.none h1' h2n h3y hf]
 | some k =>
   have ⟨hI2,hk⟩:=hI.some h1' h2n h3y hf
   have hn2:=hI2.hn
   simp only [go_sem]
   refine aj E' (fun h4=>?_) (fun h4=>?_)<;>simp only [go_sem]
   ·omega
   rw [ao ⟨by omega,by omega⟩,hQ]
   simp only [go_sem]
   refine ⟨⟨(n+k,m-1),hI2⟩,by show s.length-(n+k)<_;omega,id,?_⟩
   simp only [go_sem]
   rfl
end Go.Proofs.YtejpnabbmgpmaaaGreat

namespace Go.Proofs.YtejpnabbmgpmaaaGreat
open Go.Ab
theorem zx {G} (s:List UInt8):HP Tryz.prog G 89 [.str s] (fun r=>r=.d (.clo 144 [.ptr (.str s)])):=by
 have h:HCall Tryz.prog G 89 [.d (.str s)] [] [] (fun r hp'=>r=.clo 144 [.at [1] 0]∧hp'=[([1],.box [.d (.str s)])]):=by
  refine ai Tryz.func89 rfl (by decide +kernel) (by simp [Tryz.ntmps89]) (veil fun E=>?_)
  simp only [go_sem]
  refine ⟨_,_,[1],id,⟨rfl,rfl⟩,?_⟩
  simp only [go_sem]
 have h2:=HCall.fB (Q':=fun r hp'=>r=.d (.clo 144 [.ptr (.str s)])∧hp'=[]) h [1] (.str s) (by
  rintro r hp' ⟨rfl,rfl⟩
  refine ⟨rfl,rfl,?_,?_⟩
  ·simp only [go_sem]
  ·simp only [go_sem])
 exact h2.mono fun r hp' ⟨h1,h3⟩=>⟨h1,by rw [h1];rfl,h3⟩
theorem mb:∀ (m:Nat) (s:List UInt8),iL m s≤s.length
 | 0,_=>Nat.zero_le _
 | _+1,[]=>Nat.le_refl _
 | m+1,c::r=>by
   unfold iL
   split
   ·have:=mb m r
    simp only [List.length_cons];omega
   split
   ·split
    ·exact Nat.le_refl _
    ·rename_i k hk
     have:=pY hk
     have h2:=mb m ((c::r).drop k)
     rw [List.length_drop] at h2
     omega
   ·exact Nat.zero_le _
theorem vf (s:List UInt8):bh s≤s.length:=mb _ _
structure TI (s:List UInt8) (j p:Nat):Prop where
 hj:j≤(aC s).length
 hp:p≤s.length
 he:∃ m q,q≤s.length∧(s.drop q).length<m∧p=q+bh (s.drop q)∧(aC s).drop j=dC m (s.drop q) q
theorem TI.init (s:List UInt8):TI s 0 (bh s):=⟨Nat.zero_le _,vf s,s.length.succ,0,Nat.zero_le _,by simp,by simp,by simp [aC]⟩
theorem TI.next {s:List UInt8} {j p:Nat} (h:TI s j p):(s.length≤p∧(aC s).drop j=[]) ∨
  (p<s.length∧(aC s)[j]?=some (p,dm (s.drop p))∧(((dm (s.drop p)).e≠0∧(aC s).length=j+1) ∨
   ((dm (s.drop p)).e=0∧p+(dm (s.drop p)).n≤s.length∧1≤(dm (s.drop p)).n∧TI s (j+1) (p+(dm (s.drop p)).n+bh (s.drop (p+(dm (s.drop p)).n)))))):=by
 obtain ⟨m,q,hq,hm,rfl,he⟩:=h.he
 have hpl:=h.hp
 cases m with
 | zero=>omega
 | succ m =>
   have hdd:(s.drop q).drop (bh (s.drop q))=s.drop (q+bh (s.drop q)):=by rw [List.drop_drop]
   unfold dC at he
   rw [hdd] at he
   obtain ⟨p,hp⟩:∃ p,p=q+bh (s.drop q):=⟨_,rfl⟩
   rw [← hp] at he hpl ⊢
   by_cases h0:s.drop p=[]
   ·rw [if_pos h0] at he
    refine .inl ⟨?_,he⟩
    exact List.drop_eq_nil_iff.1 h0
   rw [if_neg h0] at he
   have hlt:p<s.length:=by
    rcases Nat.lt_or_ge p s.length with h1 | h1
    ·exact h1
    ·exact absurd (List.drop_eq_nil_of_le h1) h0
   refine .inr ⟨hlt,?_⟩
   have hget:∀ x r,(aC s).drop j=x::r→(aC s)[j]?=some x:=fun x r h=>by
    have:((aC s).drop j)[0]?=some x:=by rw [h];rfl
    simpa using this
   by_cases h1:(dm (s.drop p)).e=0
   ·rw [if_neg (by simpa using h1)] at he
    have hn:=xV h0 h1
    rw [List.length_drop] at hn hm
    refine ⟨hget _ _ he,.inr ⟨h1,by omega,hn.1,?_⟩⟩
    have hpq:=vf (s.drop (p+(dm (s.drop p)).n))
    rw [List.length_drop] at hpq
    have hj1:=(List.getElem?_eq_some_iff.1 (hget _ _ he)).1
    refine ⟨by omega,by omega,m,p+(dm (s.drop p)).n,by omega,by rw [List.length_drop];omega,rfl,?_⟩
    have h2:(aC s).drop (j+1)=((aC s).drop j).drop 1:=by rw [List.drop_drop]
    rw [h2,he,List.drop_succ_cons,List.drop_zero,List.drop_drop]
   ·rw [if_pos h1] at he
    refine ⟨hget _ _ he,.inl ⟨h1,?_⟩⟩
    have h2:=congrArg List.length he
    rw [List.length_drop] at h2
    simp at h2
    omega
def AM (s:List UInt8) (n:Nat):List D:=[i64 ((aC s).getD n (0,dB 0)).1,pa ((aC s).getD n (0,dB 0)).2]
set_option maxHeartbeats 1000000 in
theorem vF {G} (s:List UInt8) (hl:s.length≤1000000):ItC Tryz.prog G 144 [.ptr (.str s)] (aC s).length (AM s):=by
 refine Cw Tryz.func144 rfl (by decide +kernel) (by simp [Tryz.ntmps144]) rfl fun z hz=>?_
 refine bJ (aH fun E=>?_)
 simp only [go_sem]
 refine ag E (uQ s hl) rfl rfl (by simp) ?_
 rintro _ rfl
 simp only [go_sem]
 refine lT (EX (X:={ x:Nat × Nat // TI s x.1 x.2 }) (fun x=>mk [(0,.d (.yl z.l)),(1,.d (.ptr (.str s))),(3,.d (i64 x.1.2))] [] []) (fun x=>II z x.1.1) (fun x=>s.length-x.1.2) ⟨(0,bh s),.init s⟩ ⟨id,LeL.le ?_⟩ (fun _ _ h=>h) ?_)
 ·simp only [go_sem]
  all_goals rfl
 rintro ⟨⟨j,p⟩,hT⟩
 have hpl:=hT.hp
 simp only at hT hpl ⊢
 generalize hΦ:lpY _ _ _ _ _ _ _ _=Φ'
 refine bJ (aH fun E=>?_)
 simp only [go_sem]
 refine aj E (fun h1=>?_) (fun h1=>?_)<;>simp only [go_sem]
 ·obtain ⟨hlt,hget,hcase⟩:=hT.next.resolve_left (fun h=>by omega)
  have hj:j<(aC s).length:=(List.getElem?_eq_some_iff.1 hget).1
  have hgd:(aC s).getD j (0,dB 0)=(p,dm (s.drop p)):=by rw [List.getD_eq_getElem?_getD,hget];rfl
  generalize hF:dm (s.drop p)=F at hget hcase hgd
  refine bJ (lT (bJ (aH fun E=>?_)))
  simp only [go_sem]
  refine ⟨⟨by omega,by omega⟩,?_⟩
  rw [List.take_of_length_le (l:=s.drop p) (by rw [List.length_drop];omega)]
  refine ag E (CG (s.drop p) (by rw [List.length_drop];omega) (by rw [List.length_drop];omega)) rfl rfl (by simp) ?_
  rintro _ rfl
  rw [hF,gH F]
  simp only [go_sem]
  refine bJ (bJ (rn (Cu rfl ?_)))
  simp only [go_sem]
  refine Cu rfl ?_
  simp only [go_sem]
  refine Cu rfl ?_
  simp only [go_sem]
  refine Cr hz hj (by simp) rfl (by simp only [go_sem];rw [show AM s j=[i64 p,pa F] by unfold AM;rw [hgd]];rfl) ?_ ?_
  ·refine zh fun E=>?_
   simp only [go_sem]
   refine aH fun E=>?_
   simp only [go_sem]
   refine aj E (fun h2=>?_) (fun h2=>?_)<;>simp only [go_sem]
   ·rcases hcase with ⟨_,h3⟩ | ⟨h3,_⟩
    ·rw [← h3]
     subst hΦ
     exact my (Ae hz (.inr rfl))
    ·exact absurd h3 h2
   ·rcases hcase with ⟨h3,_⟩ | ⟨h3,h4,h5,h6⟩
    ·exact absurd h3 h2
    refine aH fun E=>?_
    simp only [go_sem]
    rw [ao ⟨by omega,by omega⟩]
    refine DU (aH fun E=>?_)
    simp only [go_sem]
    have hpo:=h6.hp
    refine ⟨⟨by omega,by omega⟩,?_⟩
    rw [show ((p:Int)+(F.n:Nat)).toNat=p+F.n by omega,List.take_of_length_le (l:=s.drop (p+F.n)) (by rw [List.length_drop];omega)]
    refine ag E (uQ (s.drop (p+F.n)) (by rw [List.length_drop];omega)) rfl rfl (by simp) ?_
    rintro _ rfl
    simp only [go_sem]
    rw [ao ⟨by omega,by omega⟩]
    subst hΦ
    refine rb (show { x:Nat × Nat // TI s x.1 x.2 } from ⟨(j+1,p+F.n+bh (s.drop (p+F.n))),h6⟩) ?_ id (LeL.le ?_) (fun _ _ h=>h)
    ·show s.length-(p+F.n+bh (s.drop (p+F.n)))<s.length-p
     omega
    ·simp only [go_sem]
     rfl
  ·refine zh fun E=>?_
   simp only [go_sem]
   refine aH fun E=>?_
   simp only [go_sem]
   subst hΦ
   exact my (EA hz (.inr rfl))
 ·subst hΦ
  refine qG ?_
  simp only [go_sem]
  refine GI ?_
  have hj:=hT.hj
  rcases hT.next with ⟨_,h2⟩ | ⟨h2,_⟩
  ·have h3:=List.drop_eq_nil_iff.1 h2
   have:j=(aC s).length:=by omega
   subst this
   exact Ae hz (.inl rfl)
  ·omega
end Go.Proofs.YtejpnabbmgpmaaaGreat

namespace Go.Proofs.YtejpnabbmgpmaaaGreat
open Go.Ab
theorem pC:∀ (m:Nat) (s:List UInt8) (at' i:Nat),i+1<(dC m s at').length→((dC m s at').getD i (0,dB 0)).2.e=0
 | 0,_,_,_,h=>by simp [dC] at h
 | m+1,s,at',i,h=>by
   unfold dC at h ⊢
   split at h
   ·simp at h
   rename_i h0
   rw [if_neg h0]
   split at h
   ·simp at h
   rename_i h1
   rw [if_neg h1]
   cases i with
   | zero=>simpa using h1
   | succ i =>
     simp only [List.length_cons] at h
     rw [List.getD_cons_succ]
     exact pC m _ _ i (by omega)
theorem oR:∀ {l:List (Nat × Fnd)},ju l=none→∀ q∈l,q.2.e=0
 | [],_,q,h=>by cases h
 | a::r,hb,q,h=>by
   unfold ju at hb
   split at hb
   ·cases hb
   rename_i h1
   rcases List.mem_cons.1 h with rfl | h
   ·simpa using h1
   ·exact oR hb q h
theorem ou:∀ {l:List (Nat × Fnd)} {i:Nat} {e:Int},(∀ k,k+1<l.length→(l.getD k (0,dB 0)).2.e=0)→ju l=some (i,e)→0<l.length∧(l.getD (l.length-1) (0,dB 0)).1=i∧(l.getD (l.length-1) (0,dB 0)).2.e=e∧e≠0
 | [],_,_,_,h=>by cases h
 | [a],i,e,_,h=>by
   unfold ju at h
   split at h
   ·rename_i h1;cases h;exact ⟨by simp,rfl,rfl,h1⟩
   ·cases h
 | a::b::r,i,e,hk,h=>by
   have ha:a.2.e=0:=hk 0 (by simp)
   unfold ju at h
   rw [if_neg (by simpa using ha)] at h
   obtain ⟨_,h2,h3,h4⟩:=ou (l:=b::r) (fun k hk'=>by
    have:=hk (k+1) (by simp only [List.length_cons] at hk' ⊢;omega)
    simpa using this) h
   refine ⟨by simp,?_,?_,h4⟩
   ·simpa using h2
   ·simpa using h3
def Gm:St:=mk [] [([0],.map [])] []
theorem BF {P:Program} {cf:Cf} {Φ:Exit→Act→World→Prop} {I:Base→List Deferred→Prop} {k:List It}:ARY P cf Φ I k Gm:=by
 intro B hB ds β a w hds hI hs
 obtain ⟨⟨_,_,_,h⟩,_⟩:=hs.objs [0] _ rfl
 cases h
def rz (s:List UInt8) (n:Nat):St:=mk [(0,.d (.str s)),(2,.at [2] 0),(3,.at [3] 0),(4,.at [4] 0),(5,.at [5] 0)] [([2],.box [.d .nils]),([3],.box [.d (i64 0)]),([4],.box [.d (i64 0)]),([5],.box [.vw [99] 0 n]),([99],.arr (some 4) (((aC s).take n).map fun q=>fU (oN q)))] [2,3,4,5,99]
theorem q5 (s:List UInt8) {n:Nat} (hn:n<(aC s).length) {q:Nat × Fnd} (hq:q=(aC s).getD n (0,dB 0)) :
  List.take n (List.map (fun q=>fU (oN q)) (List.take n (aC s)))++[.agg [i64 q.2.t.k,.str q.2.t.s,i64 q.2.t.n,.int .i64 (q.1:Nat)]]=List.map (fun q=>fU (oN q)) (List.take (n+1) (aC s)):=by
 have hq2:q=(aC s)[n]:=by rw [hq];simp [hn]
 rw [List.take_of_length_le (by simp;omega),List.take_succ_eq_append_getElem hn,List.map_append,← hq2]
 rfl
set_option maxHeartbeats 1000000 in
theorem Fx {G} (s:List UInt8) (hl:s.length≤1000000) (hb:ju (aC s)=none):HP Tryz.prog G 51 [.str s] (fun r=>r=.tup [.d (.sl (some 4) ((dM s).1.map fU)),.d (i64 (dM s).2.1),.d (i64 (dM s).2.2)]):=by
 have hok:=oR hb
 have hfew:(aC s).length≤s.length:=jn s.length.succ s 0
 have hlex:dM s=((aC s).map oN,s.length,0):=by unfold dM;rw [hb]
 refine um Tryz.func51 rfl (by decide +kernel) (by simp [Tryz.ntmps51]) fun B0 hB0=>?_
 refine bJ (aH fun E=>?_)
 simp only [go_sem]
 refine bJ (aH fun E=>?_)
 simp only [go_sem]
 refine bJ (bJ (aH fun E=>?_))
 simp only [go_sem]
 refine ag E (zx s) rfl rfl (by simp) ?_
 rintro _ rfl
 simp only [go_sem]
 refine uL [5] 0 99 (some 4) [.d .nils] rfl rfl (by rw [aa];decide) ?_
 simp only [go_sem]
 refine lT (vT rfl (vF s hl) rfl (X:=Unit) (fun n _=>rz s n) (by simp) (fun n hn=>rfl) ⟨(),id,LeL.le ?_⟩ ?_ ?_)
 ·simp only [go_sem]
  all_goals rfl
 ·rintro n ⟨⟩ hn lb
  unfold rz AM
  obtain ⟨q,hq⟩:∃ q,q=(aC s).getD n (0,dB 0):=⟨_,rfl⟩
  have hqm:q∈aC s:=by rw [hq];simp [hn]
  have hqe:=hok q hqm
  rw [← hq,gH]
  refine veil fun E=>?_
  simp only [go_sem]
  refine Ga fun E=>?_
  simp only [go_sem]
  refine aj E (fun h1=>absurd hqe h1) (fun h1=>?_)<;>simp only [go_sem]
  rw [q5 s hn hq]
  refine ⟨by omega,?_⟩
  refine DN ?_ () (tau [([99],[25])]) rfl ?_
  ·simp only [go_sem]
  ·simp only [go_sem]
 ·rintro ⟨⟩
  refine DU ?_
  unfold rz
  rw [List.take_length]
  refine aH fun E=>?_
  simp only [go_sem]
  refine yj (.inl rfl) hB0 ?_
  simp only [go_sem]
  refine ⟨[([99],some 4,(aC s).map fun q=>fU (oN q))],?_⟩
  simp only [go_sem]
  rw [hlex,List.map_map]
  rfl
set_option maxHeartbeats 1000000 in
theorem Bm {G} (s:List UInt8) (hl:s.length≤1000000) {i:Nat} {e:Int} (hb:ju (aC s)=some (i,e)):HP Tryz.prog G 51 [.str s] (fun r=>r=.tup [.d .nils,.d (i64 i),.d (i64 e)]):=by
 obtain ⟨h0,hi,he,hne⟩:=ou (pC _ _ _) hb
 have hok:∀ n,n+1<(aC s).length→((aC s).getD n (0,dB 0)).2.e=0:=pC _ _ _
 have hfew:(aC s).length≤s.length:=jn s.length.succ s 0
 change 0<(aC s).length at h0
 change ((aC s).getD ((aC s).length-1) (0,dB 0)).1=i at hi
 change ((aC s).getD ((aC s).length-1) (0,dB 0)).2.e=e at he
 refine um Tryz.func51 rfl (by decide +kernel) (by simp [Tryz.ntmps51]) fun B0 hB0=>?_
 refine bJ (aH fun E=>?_)
 simp only [go_sem]
 refine bJ (aH fun E=>?_)
 simp only [go_sem]
 refine bJ (bJ (aH fun E=>?_))
 simp only [go_sem]
 refine ag E (zx s) rfl rfl (by simp) ?_
 rintro _ rfl
 simp only [go_sem]
 refine uL [5] 0 99 (some 4) [.d .nils] rfl rfl (by rw [aa];decide) ?_
 simp only [go_sem]
 refine lT (vT rfl (vF s hl) rfl (X:=Unit) (fun n _=>if n<(aC s).length then rz s n else Gm) (by simp) (fun n hn=>rfl) ⟨(),id,?_⟩ ?_ ?_)
 ·rw [if_pos h0]
  refine LeL.le ?_
  simp only [go_sem]
  all_goals rfl
 ·rintro n ⟨⟩ hn lb
  simp only [if_pos hn]
  have hlast:n+1<(aC s).length∨n=(aC s).length-1:=by omega
  obtain ⟨q,hq⟩:∃ q,q=(aC s).getD n (0,dB 0):=⟨_,rfl⟩
  have hcase:(q.2.e=0∧n+1<(aC s).length)∨(q.1=i∧q.2.e=e):=by
   rcases hlast with h | h
   ·exact .inl ⟨by rw [hq];exact hok n h,h⟩
   ·refine .inr ⟨?_,?_⟩
    ·rw [hq,h];exact hi
    ·rw [hq,h];exact he
  unfold AM
  rw [← hq,gH]
  unfold rz
  refine veil fun E=>?_
  simp only [go_sem]
  refine Ga fun E=>?_
  simp only [go_sem]
  refine aj E (fun h1=>?_) (fun h1=>?_)<;>simp only [go_sem]
  ·obtain ⟨hq1,hq2⟩:=hcase.resolve_left (fun h=>h1 h.1)
   refine ah mixed E fun X=>?_
   simp only [go_sem]
   refine ⟨by decide +kernel,?_⟩
   refine D4 ?_ (yj (.inl rfl) hB0 ?_)
   ·simp only [go_sem]
    exact Nat.le_refl _
   ·simp only [go_sem]
    refine ⟨[],?_⟩
    simp only [go_sem]
    rw [hq1,hq2]
  ·rcases hcase with ⟨_,h2⟩ | ⟨_,h2⟩
   ·rw [q5 s hn hq]
    refine ⟨by omega,?_⟩
    simp only [if_pos h2]
    refine DN ?_ () (tau [([99],[25])]) rfl ?_
    ·simp only [go_sem]
    ·simp only [go_sem]
   ·exact absurd h2 (fun h=>by omega)
 ·rintro ⟨⟩
  rw [if_neg (Nat.lt_irrefl _)]
  exact BF
end Go.Proofs.YtejpnabbmgpmaaaGreat

namespace Go.Proofs.YtejpnabbmgpmaaaGreat
open Go.Ab
theorem SS.parted (s:PS) (t:Tok) (l:List EF) (h:∀ N,PSo N s→0≤t.pos∧t.pos≤N):SS s (s.parted t l):=by
 unfold PS.parted
 split
 ·exact SS.refl s
 split
 ·exact SS.fail s _ _ h
 split
 ·exact SS.fail s _ _ h
 ·exact SS.refl s
theorem SS.withp {s r:PS} (h:SS s r) (e p:Int) (hp:∀ N,PSo N s→0≤p∧p≤N):SS s (r.fail e p):=by
 unfold PS.fail
 split
 ·exact ⟨h.suf,h.fin,h.nest,hp⟩
 ·exact h
theorem SS.partp {s r:PS} (h:SS s r) (t:Tok) (l:List EF) (hp:∀ N,PSo N s→0≤t.pos∧t.pos≤N):SS s (r.parted t l):=by
 unfold PS.parted
 split
 ·exact h
 split
 ·exact SS.withp h _ _ hp
 split
 ·exact SS.withp h _ _ hp
 ·exact h
theorem SS.field (s:PS) (l:List EF):SS s (fN s l).2 :=
 (SS.partp (SS.of s 2) s.peek l fun _ h=>jG h).trans (SS.must _ _ _)
theorem SS.branch (s:PS) (l:List EF):SS s (ef s l).2 :=
 ((SS.partp (SS.of s 3) s.peek l fun _ h=>jG h).trans (SS.of _ _)).trans (SS.must _ _ _)
structure PGood (s:PS) (l:List EF) (ks:List (List EN)) (R:List EF × List (List EN) × PS):Prop where
 ss:SS s R.2.2
 eq:R.1.length=R.2.1.length
 tr:∀ k∈R.2.1,Tr k
 sz:aV R.2.1+4*R.2.2.l.length+3*R.1.length≤aV ks+4*s.l.length+3*l.length+4
 ln:R.1.length+R.2.2.l.length≤l.length+s.l.length+1
 wd:∀ b,(∀ k∈ks,eY b k)→s.l.length+1≤b+R.2.2.l.length→∀ k∈R.2.1,eY b k
theorem og (ks:List (List EN)) (k:List EN):aV (ks++[k])=aV ks+k.length:=by simp [aV]
theorem oV (ex:PS→PR) (b:List UInt8) (part:PS→List EF→EF × PS):∀ (m:Nat) (s:PS) (l:List EF) (ks:List (List EN)),1≤(bd ex b part (m+1) s l ks).1.length
 | 0,s,l,ks=>by
   unfold bd;simp only
   split
   ·simp [bd]
   ·simp
 | m+1,s,l,ks=>by
   unfold bd;simp only
   split
   ·exact oV ex b part m _ _ _
   ·simp
section
variable {ex:PS→PR} (hex:∀ s,GP 1 s (ex s))
include hex
theorem er (between:List UInt8) (part:PS→List EF→EF × PS) (hp:∀ s l,SS s (part s l).2):∀ (m:Nat) (s:PS) (l:List EF) (ks:List (List EN)),l.length=ks.length→(∀ k∈ks,Tr k) →
  PGood s l ks (bd ex between part m s l ks)
 | 0,s,l,ks,hl,ht=>⟨SS.refl s,hl,ht,by show aV ks+4*s.l.length+3*l.length≤_;omega,by show l.length+s.l.length≤_;omega,fun b h _=>h⟩
 | m+1,s,l,ks,hl,ht=>by
   have hf:=hp s l
   have he:=hex (part s l).2
   have h1:=he.sz
   have h2:=hf.len
   have h3:=he.ss.len
   have hks:∀ k∈ks++[(ex (part s l).2).1],Tr k:=fun k hk=>by
    rcases List.mem_append.1 hk with hk | hk
    ·exact ht k hk
    ·rw [List.mem_singleton.1 hk];exact he.tr
   unfold bd
   simp only
   split
   ·rename_i hs
    have h4:=aL hs
    have ih:=er between part hp m (ex (part s l).2).2.next (l++[(part s l).1]) (ks++[(ex (part s l).2).1]) (by simp [hl]) hks
    have h5:=ih.ss.len
    have h6:=ih.sz
    have h7:=ih.ln
    rw [og] at h6
    simp only [List.length_append,List.length_singleton] at h6 h7
    refine ⟨((hf.trans he.ss).trans (SS.next _)).trans ih.ss,ih.eq,ih.tr,by omega,by omega,fun b hb hle=>ih.wd b (fun k hk=>?_) (by omega)⟩
    rcases List.mem_append.1 hk with hk | hk
    ·exact hb k hk
    ·rw [List.mem_singleton.1 hk];exact he.wd.mono (by omega)
   ·refine ⟨hf.trans he.ss,by simp [hl],hks,?_,?_,fun b hb hle k hk=>?_⟩
    ·rw [og];simp only [List.length_append,List.length_singleton];omega
    ·simp only [List.length_append,List.length_singleton];omega
    ·simp only at hle
     rcases List.mem_append.1 hk with hk | hk
     ·exact hb k hk
     ·rw [List.mem_singleton.1 hk];exact he.wd.mono (by omega)
theorem kB (s:PS) (pos:Int):GP 2 s (dV ex s pos):=by
 unfold dV
 split
 ·exact GP.leaf rfl rfl (SS.next s) (by rename_i h;have:=aL h;omega)
 ·have h:=er hex [44] fN SS.field s.l.length.succ s [] [] rfl (fun _ h=>by cases h)
  generalize bd ex [44] fN s.l.length.succ s [] []=R at h
  have h1:=h.sz
  have h2:=h.ln
  have h3:=h.ss.len
  have h4:=(SS.must R.2.2 7 [125]).len
  simp only [aV,List.map_nil,List.sum_nil,List.length_nil] at h1 h2
  refine ⟨h.ss.trans (SS.must _ _ _),.join _ _ (by show 0+R.1.length=_;rw [h.eq];omega) h.tr,?_,cG (by show R.1.length≤_;simp only;omega) (h.wd _ (fun _ h=>by cases h) (by simp only;omega))⟩
  rw [ch]
  simp only [aV]
  have h5:R.1=[]∨1≤R.1.length:=by cases R.1<;>simp
  rcases h5 with h5 | h5
  ·have:R.2.1=[]:=List.length_eq_zero_iff.1 (by rw [← h.eq,h5];rfl)
   rw [this];simp only [List.map_nil,List.sum_nil];omega
  ·omega
theorem mM (s:PS) (pos:Int):GP 3 s (gf ex s pos):=by
 unfold gf
 have he:=hex s
 have hm:=SS.must (ex s).2 1 bOf
 simp only
 generalize (ex s).2.must 1 bOf=s1 at hm
 have h:=er hex [124] ef SS.branch s1.l.length.succ s1 [] [] rfl (fun _ h=>by cases h)
 generalize hR:bd ex [124] ef s1.l.length.succ s1 [] []=R at h
 have h1:=h.sz
 have h2:=h.ln
 have h3:=h.ss.len
 have h4:=(SS.must R.2.2 1 CL).len
 have h5:=he.sz
 have h6:=he.ss.len
 have h7:=hm.len
 have h8:1≤R.1.length:=by
  rw [← hR]
  exact oV _ _ _ _ _ _ _
 simp only [aV,List.map_nil,List.sum_nil,List.length_nil] at h1 h2
 refine ⟨((he.ss.trans hm).trans h.ss).trans (SS.must _ _ _),.join _ _ (by show 1+R.1.length=_;rw [h.eq,List.length_cons];omega) (fun l hl=>?_),?_,cG (by show R.1.length≤_;simp only;omega) fun l hl=>?_⟩
 ·rcases List.mem_cons.1 hl with rfl | hl
  ·exact he.tr
  ·exact h.tr l hl
 ·rw [ch]
  simp only [aV,List.map_cons,List.sum_cons]
  omega
 ·rcases List.mem_cons.1 hl with rfl | hl
  ·exact he.wd.mono (by simp only;omega)
  ·exact h.wd _ (fun _ h=>by cases h) (by simp only;omega) l hl
def GQ (s:PS) (r:PR):Prop:=GP 1 s r∧(r.2.l.length<s.l.length→r.1.length+4*r.2.l.length+1≤4*s.l.length)
theorem ky (s:PS):GQ s (cW ex s):=by
 have lf:∀ n:EN,bD n=0→n.l=[]→s.next.l.length+1=s.l.length→GQ s (bV n,s.next):=fun n h1 h2 h3 =>
  ⟨GP.leaf h1 h2 (SS.next s) (by omega),fun _=>by show (ax n []).length+_+1≤_;rw [ch];simp only [aV,List.map_nil,List.sum_nil];omega⟩
 have no:GQ s (noE,s.wrong):=⟨GP.leaf rfl rfl (SS.wrong s) (by have:=(SS.wrong s).len;omega),fun h=>absurd h (by show ¬ s.wrong.l.length<_;unfold PS.wrong PS.fail;split<;>simp)⟩
 unfold cW
 simp only
 split
 ·exact no
 split
 ·rename_i h;exact lf _ rfl rfl (fK h (by decide))
 split
 ·rename_i h;exact lf _ rfl rfl (fK h (by decide))
 split
 ·rename_i h;exact lf _ rfl rfl (fK h (by decide))
 split
 ·rename_i h;exact lf _ rfl rfl (aL h)
 split
 ·rename_i h;exact lf _ rfl rfl (aL h)
 split
 ·rename_i h
  have h1:=aL h
  have he:=hex s.next
  have h2:=he.sz
  have h3:=(SS.must (ex s.next).2 7 [41]).len
  exact ⟨(GP.pre (e:=1) (r:=((ex s.next).1,(ex s.next).2)) he (SS.next s) (by omega)).post (SS.must _ _ _),fun _=>by simp only;omega⟩
 split
 ·rename_i h
  have h1:=aL h
  have he:=kB hex s.next s.peek.pos
  have h2:=he.sz
  exact ⟨he.pre (SS.next s) (by omega),fun _=>by omega⟩
 split
 ·rename_i h
  have h1:=aL h
  have he:=mM hex s.next s.peek.pos
  have h2:=he.sz
  exact ⟨he.pre (SS.next s) (by omega),fun _=>by omega⟩
 ·exact no
omit hex in
theorem jZ (s0:PS):∀ (m:Nat) (a:List EN) (s:PS),GQ s0 (a,s)→GQ s0 (fc m a s)
 | 0,_,_,h=>h
 | m+1,a,s,h=>by
   unfold fc
   split
   ·rename_i hs
    refine jZ s0 m _ _ ?_
    have h1:=aL hs
    have h2:=(SS.of s.next 2).len
    have h3:=h.1.sz
    have h4:=h.1.ss.len
    simp only at h3 h4
    have hj:(ax { nd0 12 s.peek.pos with name:=(s.next.of 2).1 } [a]).length=a.length+1:=by rw [ch];simp [aV]
    refine ⟨⟨(h.1.ss.trans (SS.next s)).trans (SS.of _ _),.join _ _ rfl (fun l hl=>by rw [List.mem_singleton.1 hl];exact h.1.tr),by rw [hj];simp only;omega,cG (Nat.zero_le _) fun l hl=>by rw [List.mem_singleton.1 hl];exact h.1.wd.mono (by simp only;omega)⟩,fun _=>by rw [hj];simp only;omega⟩
   ·exact h
theorem eh (s:PS):GQ s (cV ex s):=jZ s _ _ _ (ky hex s)
omit hex in
theorem rk:∀ (m:Nat) (a:List EN) (s:PS),(fc m a s).2.l.length≤s.l.length
 | 0,_,_=>Nat.le_refl _
 | m+1,a,s=>by
   unfold fc
   split
   ·have:=rk m (ax { nd0 12 s.peek.pos with name:=(s.next.of 2).1 } [a]) (s.next.of 2).2
    have:=(SS.of s.next 2).len
    have:=(SS.next s).len
    omega
   ·exact Nat.le_refl _
theorem j1 {s:PS} (he:s.err=0) (hb:s.begins=true):(cV ex s).2.l.length<s.l.length:=by
 have h1:=rk (cW ex s).2.l.length.succ (cW ex s).1 (cW ex s).2
 have key:(cW ex s).2.l.length<s.l.length:=by
  unfold PS.begins at hb
  simp only [Bool.or_eq_true,Bool.and_eq_true,decide_eq_true_eq] at hb
  unfold cW
  simp only [he,ne_eq,not_true_eq_false,if_false]
  have hk:∀ k:Int,s.peek.k=k→k≠0→s.next.l.length<s.l.length:=fun k h h0=>by have:=fK h h0;omega
  have hne:∀ k:Int,s.peek.k=k→k≠0→s.l.isEmpty=false:=fun k h h0=>by
   have:=fK h h0
   cases hl:s.l with
   | nil=>rw [hl] at this;simp at this
   | cons _ _=>rfl
  split
  ·rename_i h;exact hk 4 h (by decide)
  split
  ·rename_i h;exact hk 5 h (by decide)
  split
  ·rename_i h;exact hk 2 h (by decide)
  rename_i g4 g5 g2
  split
  ·rename_i h;have:=aL h;simp only;omega
  rename_i g1
  split
  ·rename_i h;have:=aL h;simp only;omega
  rename_i g3
  split
  ·rename_i h
   have:=aL h
   have:=(hex s.next).ss.len
   have:=(SS.must (ex s.next).2 7 [41]).len
   simp only;omega
  rename_i g6
  split
  ·rename_i h
   have:=aL h
   have:=(kB hex s.next s.peek.pos).ss.len
   omega
  rename_i g7
  split
  ·rename_i h
   have:=aL h
   have:=(mM hex s.next s.peek.pos).ss.len
   omega
  rename_i g8
  exfalso
  have see:∀ k t,k≠0→s.peek.k=k→s.peek.s=t→s.sees k t=true:=fun k t h0 h h'=>by
   simp [PS.sees,PS.is,he,h,h',hne k h h0]
  rcases hb with (((h | h) | h) | ⟨h,h'⟩) | ⟨h,h'⟩
  ·exact g4 h
  ·exact g5 h
  ·exact g2 h
  ·rcases h' with (h' | h') | h'
   ·exact g1 (see 1 _ (by decide) h h')
   ·exact g3 (see 1 _ (by decide) h h')
   ·exact g8 (see 1 _ (by decide) h h')
  ·rcases h' with h' | h'
   ·exact g6 (see 7 _ (by decide) h h')
   ·exact g7 (see 7 _ (by decide) h h')
 exact Nat.lt_of_le_of_lt h1 key
theorem iB (s0:PS):∀ (m:Nat) (a:List EN) (s:PS),GP 1 s0 (a,s)→GP 1 s0 (gy ex m a s)
 | 0,_,_,h=>h
 | m+1,a,s,h=>by
   unfold gy
   split
   ·rename_i hs
    simp only [Bool.and_eq_true,decide_eq_true_eq] at hs
    have hp:=eh hex s
    have hl:=j1 hex hs.1 hs.2
    have h2:=hp.2 hl
    have h3:=h.sz
    have h4:=h.ss.len
    simp only at h3 h4
    refine iB s0 m _ _ ⟨h.ss.trans hp.1.ss,.join _ _ rfl (fun l hl=>?_),?_,cG (Nat.zero_le _) fun l hl=>?_⟩
    ·rcases List.mem_cons.1 hl with rfl | hl
     ·exact h.tr
     ·rw [List.mem_singleton.1 hl];exact hp.1.tr
    ·rw [ch]
     simp only [aV,List.map_cons,List.map_nil,List.sum_cons,List.sum_nil]
     omega
    ·rcases List.mem_cons.1 hl with rfl | hl
     ·exact h.wd.mono (by simp only;omega)
     ·rw [List.mem_singleton.1 hl];exact hp.1.wd.mono (by simp only;omega)
   ·exact h
theorem gI (s:PS):GP 1 s (jW ex s):=by
 unfold jW
 simp only
 split
 ·rename_i h
  have h1:=Ch h (by decide)
  exact GP.DQ (eh hex s.next).1 (SS.next s) rfl rfl (by omega)
 ·exact iB hex s _ _ _ (eh hex s).1
omit hex in
theorem gq {s:PS}:∀ {ops:List (List UInt8 × Int)} {n:Int},opS s ops=some n→s.next.l.length+1=s.l.length
 | [],_,h=>by cases h
 | q::r,n,h=>by
   unfold opS at h
   split at h
   ·rename_i hs;exact aL hs
   ·exact gq h
omit hex in
theorem m6 (ops:List (List UInt8 × Int)) (sub:PS→PR) (hsub:∀ s,GP 1 s (sub s)) (s0:PS):∀ (m:Nat) (a:List EN) (s:PS),GP 1 s0 (a,s)→GP 1 s0 (ja ops sub m a s)
 | 0,_,_,h=>h
 | m+1,a,s,h=>by
   unfold ja
   split
   ·rename_i n ho
    have h1:=gq ho
    exact m6 ops sub hsub s0 m _ _ (GP.rF (s1:=s0) (a:=(a,s)) h (hsub s.next) (SS.refl s0) (SS.next s) rfl rfl (by simp only;omega))
   ·exact h
theorem eX (s:PS):GP 1 s (iN ex s):=m6 _ _ (gI hex) s _ _ _ (gI hex s)
theorem gW (s:PS):GP 1 s (rG ex s):=m6 _ _ (eX hex) s _ _ _ (eX hex s)
theorem rE (s:PS):GP 1 s (rP ex s):=by
 unfold rP
 simp only
 split
 ·rename_i n ho
  have h1:=gq ho
  exact GP.rF (gW hex s) (gW hex _) (SS.refl s) (SS.next _) rfl rfl (by omega)
 ·exact gW hex s
omit hex in
theorem nw (s:PS) (e p:Int):(s.fail e p).l=s.l:=by unfold PS.fail;split<;>rfl
theorem qR (s:PS) (pos:Int):GP 3 s (pV ex s pos):=by
 unfold pV
 simp only
 obtain ⟨k,hk⟩:∃ k:Int,k=if s.sees 1 jC=true then 8 else 7:=⟨_,rfl⟩
 rw [← hk]
 have h0:=(SS.may s 1 jC).trans ((SS.of (s.may 1 jC) 2).trans (SS.must ((s.may 1 jC).of 2).2 7 [61]))
 generalize (((s.may 1 jC).of 2).2.must 7 [61])=s2 at h0
 have ha:=hex s2
 obtain ⟨s3,hq⟩:∃ s3,s3=if k=8∧(gA (ex s2).1).k≠5 then (ex s2).2.fail 5 s2.peek.pos else (ex s2).2:=⟨_,rfl⟩
 rw [← hq]
 have hb:=hex (s3.must 1 bIn)
 have hss:SS s2 s3:=by
  by_cases c:k=8∧(gA (ex s2).1).k≠5
  ·rw [if_pos c] at hq;rw [hq];exact SS.withp ha.ss _ _ fun _ h=>jG h
  ·rw [if_neg c] at hq;rw [hq];exact ha.ss
 have hl:s3.l=(ex s2).2.l:=by
  by_cases c:k=8∧(gA (ex s2).1).k≠5
  ·rw [if_pos c] at hq;rw [hq];exact nw _ _ _
  ·rw [if_neg c] at hq;rw [hq]
 have ha':GP 1 s2 ((ex s2).1,s3):=⟨hss,ha.tr,by simp only [hl];exact ha.sz,by simp only [hl];exact ha.wd⟩
 have h3:=(SS.must s3 1 bIn).len
 have h4:=h0.len
 refine GP.rF (a:=((ex s2).1,s3)) ha' hb h0 (SS.must _ _ _) ?_ rfl (by simp only;omega)
 rw [hk]
 split<;>rfl
theorem vV (s:PS) (pos:Int):GP 4 s (ifS ex s pos):=by
 unfold ifS
 simp only
 exact GP.F9 (hex s) (hex _) (hex _) (SS.refl s) (SS.must _ _ _) (SS.must _ _ _) rfl rfl (by omega)
theorem wM (s:PS):GP 1 s (mL ex s):=by
 unfold mL
 simp only
 split
 ·rename_i h
  have h1:=aL h
  have h2:=(SS.of s.next 2).len
  have h3:=(SS.must (s.next.of 2).2 7 bTo).len
  exact GP.DQ (hex _) ((SS.next s).trans ((SS.of _ _).trans (SS.must _ _ _))) rfl rfl (by omega)
 split
 ·rename_i h
  have h1:=aL h
  exact (qR hex s.next _).pre (SS.next s) (by omega)
 split
 ·rename_i h
  have h1:=aL h
  exact (vV hex s.next _).pre (SS.next s) (by omega)
 ·exact rE hex s
end
theorem im:∀ (m:Nat) (s:PS),GP 1 s (gz m s)
 | 0,s=>GP.leaf rfl rfl (SS.failp s 6) (by have:=(SS.failp s 6).len;omega)
 | m+1,s=>by
   unfold gz
   split
   ·exact GP.leaf rfl rfl (SS.refl s) (by omega)
   ·have h:=wM (im m) { s with nest:=s.nest+1 }
    refine ⟨⟨h.ss.suf,h.ss.fin,rfl,fun N hN=>h.ss.pos N hN⟩,h.tr,h.sz,h.wd⟩
end Go.Proofs.YtejpnabbmgpmaaaGreat

namespace Go.Proofs.YtejpnabbmgpmaaaGreat
open Go.Ab
def ae (l:List Tok):D:=.sl (some 4) (l.map fU)
def TO (l:List Tok) (fin:Int):List (Name × Ob):=[([101],.box [.d (ae l),.d (i64 fin)])]
def bE (l:List Tok) (fin:Int):Tok:=match l with
 | []=>⟨0,[],0,fin⟩
 | t::_=>t
theorem uc {G} (l:List Tok) (fin:Int):HCall Tryz.prog G 54 [.at [101] 0] (TO l fin) [101] (fun r hp'=>r=.d (.bool l.isEmpty)∧hp'=TO l fin):=by
 unfold TO ae
 refine ai Tryz.func54 rfl (by decide +kernel) (by simp [Tryz.ntmps54]) (veil fun E=>?_)
 simp only [go_sem]
 refine cN E (e:=157) false (by rw [E1]) (by simp only [go_sem]) rfl ?_
 simp only [go_sem]
 refine ⟨_,_,[101],id,⟨rfl,rfl⟩,?_⟩
 simp only [go_sem]
 cases l with
 | nil=>rfl
 | cons t r=>simp only [List.length_cons,List.length_map,List.isEmpty_cons,decide_eq_false (show ¬ ((r.length+1:Nat):Int)=0 by omega),and_self]
theorem cZ {G} (l:List Tok) (fin:Int) (hl:l.length≤1000000):HCall Tryz.prog G 90 [.at [101] 0] (TO l fin) [101] (fun r hp'=>r=.d (.agg [i64 (bE l fin).k,.str (bE l fin).s,i64 (bE l fin).n,i64 (bE l fin).pos])∧hp'=TO l fin):=by
 unfold TO ae
 refine ai Tryz.func90 rfl (by decide +kernel) (by simp [Tryz.ntmps90]) (veil fun E=>?_)
 simp only [go_sem]
 refine cN E (e:=157) false (by rw [E1]) (by simp only [go_sem]) rfl ?_
 simp only [go_sem]
 refine aj E (fun h=>?_) (fun h=>?_)<;>simp only [go_sem]
 ·cases l with
  | nil =>
    refine ⟨_,_,[101],id,⟨rfl,rfl⟩,?_⟩
    simp only [go_sem]
    rfl
  | cons t r=>simp at h;omega
 ·cases l with
  | nil=>exact absurd (by simp) h
  | cons t r =>
    refine ⟨by simp,?_⟩
    rw [show (List.map fU (t::r)).getD 0 .nilp=.agg [i64 t.k,.str t.s,i64 t.n,i64 t.pos] from rfl]
    simp only [go_sem]
    refine ⟨_,_,[101],id,⟨rfl,rfl⟩,?_⟩
    simp only [go_sem]
    rfl
theorem iv {G} (l:List Tok) (fin:Int) (hl:l.length≤1000000):HCall Tryz.prog G 148 [.at [101] 0] (TO l fin) [101] (fun r hp'=>r=.d (.agg [i64 (bE l fin).k,.str (bE l fin).s,i64 (bE l fin).n,i64 (bE l fin).pos])∧hp'=TO l.tail fin):=by
 unfold TO ae
 refine ai Tryz.func148 rfl (by decide +kernel) (by simp [Tryz.ntmps148]) (veil fun E=>?_)
 simp only [go_sem]
 refine ab E [.at [101] 0] (TO l fin) [101] (cZ l fin hl) rfl rfl ⟨by simp only [go_sem],by rw [aa];decide⟩ rfl (by unfold TO ae;simp only [go_sem]) (by unfold TO;simp only [go_sem]) ?_
 rintro _ _ ⟨rfl,rfl⟩
 unfold TO ae
 simp only [go_sem]
 refine ab E [.at [101] 0] (TO l fin) [101] (uc l fin) rfl rfl ⟨by simp only [go_sem],by rw [aa];decide⟩ rfl (by unfold TO ae;simp only [go_sem]) (by unfold TO;simp only [go_sem]) ?_
 rintro _ _ ⟨rfl,rfl⟩
 unfold TO ae
 simp only [go_sem]
 refine aI E (fun h=>?_) (fun h=>?_)<;>simp only [go_sem]
 ·cases l with
  | nil=>exact absurd h (by simp)
  | cons t r =>
    refine ⟨by simp only [List.length_cons];omega,_,_,[101],id,⟨rfl,rfl⟩,?_⟩
    simp only [go_sem]
    rfl
 ·cases l with
  | nil =>
    refine ⟨_,_,[101],id,⟨rfl,rfl⟩,?_⟩
    simp only [go_sem]
    rfl
  | cons t r=>exact absurd h (by simp)
def isT (l:List Tok) (fin k:Int) (t:List UInt8):Bool:=!l.isEmpty && decide ((bE l fin).k=k) && decide ((bE l fin).s=t)
theorem Dh {G} (l:List Tok) (fin k:Int) (t:List UInt8) (hl:l.length≤1000000) (hk:k≠0∧k≠4):HCall Tryz.prog G 270 [.at [101] 0,.d (i64 k),.d (.str t)] (TO l fin) [101] (fun r hp'=>r=.d (.bool (isT l fin k t))∧hp'=TO l fin):=by
 unfold isT
 unfold TO ae
 refine ai Tryz.func270 rfl (by decide +kernel) (by simp [Tryz.ntmps270]) (veil fun E=>?_)
 simp only [go_sem]
 refine ab E [.at [101] 0] (TO l fin) [101] (cZ l fin hl) rfl rfl ⟨by simp only [go_sem],by rw [aa];decide⟩ rfl (by unfold TO ae;simp only [go_sem]) (by unfold TO;simp only [go_sem]) ?_
 rintro _ _ ⟨rfl,rfl⟩
 unfold TO ae
 simp only [go_sem]
 refine ab E [.at [101] 0] (TO l fin) [101] (uc l fin) rfl rfl ⟨by simp only [go_sem],by rw [aa];decide⟩ rfl (by unfold TO ae;simp only [go_sem]) (by unfold TO;simp only [go_sem]) ?_
 rintro _ _ ⟨rfl,rfl⟩
 unfold TO ae
 simp only [go_sem]
 refine cY E (fun h1=>?_) (fun h1=>?_)<;>simp only [go_sem]
 ·refine aD E (fun h2=>?_) (fun h2=>?_)<;>simp only [go_sem]
  ·refine aD E (fun h3=>?_) (fun h3=>absurd hk.1 h3)
   simp only [go_sem]
   refine cY E (fun h4=>?_) (fun h4=>?_)<;>simp only [go_sem]
   ·refine ⟨_,_,[101],id,⟨rfl,rfl⟩,?_⟩
    simp only [go_sem]
    rw [h1,decide_eq_true h2,decide_eq_true (show (bE l fin).s=t by simpa using h4)]
    rfl
   ·refine ⟨_,_,[101],id,⟨rfl,rfl⟩,?_⟩
    simp only [go_sem]
    rw [h1,decide_eq_true h2,decide_eq_false (show ¬ (bE l fin).s=t by simpa using h4),decide_eq_false hk.2]
    rfl
  ·refine ⟨_,_,[101],id,⟨rfl,rfl⟩,?_⟩
   simp only [go_sem]
   rw [decide_eq_false h2,Bool.and_false,Bool.false_and]
 ·refine ⟨_,_,[101],id,⟨rfl,rfl⟩,?_⟩
  simp only [go_sem]
  rw [h1,Bool.false_and,Bool.false_and]
theorem BE {G} (l:List Tok) (fin k:Int) (t:List UInt8) (hl:l.length≤1000000) (hk:k≠0∧k≠4):HCall Tryz.prog G 222 [.at [101] 0,.d (i64 k),.d (.str t)] (TO l fin) [101] (fun r hp'=>r=.d (.bool (isT l fin k t))∧hp'=TO (if isT l fin k t then l.tail else l) fin):=by
 obtain ⟨b,hb⟩:∃ b,b=isT l fin k t:=⟨_,rfl⟩
 have h0:=Dh (G:=G) l fin k t hl hk
 have h1:=iv (G:=G) l fin hl
 rw [← hb] at h0 ⊢
 generalize hX:(if b then l.tail else l)=X
 unfold TO ae at *
 refine ai Tryz.func222 rfl (by decide +kernel) (by simp [Tryz.ntmps222]) (veil fun E=>?_)
 simp only [go_sem]
 refine ab E [.at [101] 0,.d (i64 k),.d (.str t)] (TO l fin) [101] (h0) rfl rfl ⟨by simp only [go_sem],by rw [aa];decide⟩ rfl (by unfold TO ae;simp only [go_sem]) (by unfold TO;simp only [go_sem]) ?_
 rintro _ _ ⟨rfl,rfl⟩
 unfold TO ae
 simp only [go_sem]
 refine aI E (fun h=>?_) (fun h=>?_)<;>simp only [go_sem]
 ·refine ab E [.at [101] 0] (TO l fin) [101] (h1) rfl rfl ⟨by simp only [go_sem],by rw [aa];decide⟩ rfl (by unfold TO ae;simp only [go_sem]) (by unfold TO;simp only [go_sem]) ?_
  rintro _ _ ⟨rfl,rfl⟩
  unfold TO ae
  simp only [go_sem]
  refine ⟨_,_,[101],id,⟨rfl,rfl⟩,?_⟩
  simp only [go_sem]
  rw [← hX,h]
  rfl
 ·refine ⟨_,_,[101],id,⟨rfl,rfl⟩,?_⟩
  simp only [go_sem]
  rw [← hX,h]
  rfl
def RO (s:PS):List (Name × Ob):=([100],.box [.at [101] 0,.d (i64 s.err),.d (i64 s.pos),.d (i64 s.nest)])::TO s.l s.fin
theorem eC {G} (s:PS):HCall Tryz.prog G 92 [.at [100] 0] (RO s) [100,101] (fun r hp'=>r=.d (.bool (decide (s.err=0)))∧hp'=RO s):=by
 unfold RO TO ae
 refine ai Tryz.func92 rfl (by decide +kernel) (by simp [Tryz.ntmps92]) (veil fun E=>?_)
 simp only [go_sem]
 refine ⟨_,_,[100,101],id,⟨rfl,rfl⟩,?_⟩
 simp only [go_sem]
theorem mw {G} (s:PS) (e p:Int):HCall Tryz.prog G 91 [.at [100] 0,.d (i64 e),.d (i64 p)] (RO s) [100,101] (fun r hp'=>r=.tup []∧hp'=RO (s.fail e p)):=by
 generalize hX:s.fail e p=X
 unfold PS.fail at hX
 unfold RO TO ae
 refine ai Tryz.func91 rfl (by decide +kernel) (by simp [Tryz.ntmps91]) (veil fun E=>?_)
 simp only [go_sem]
 refine ab E [.at [100] 0] (RO s) [100,101] (eC s) rfl rfl ⟨by simp only [go_sem],by rw [aa];decide⟩ rfl (by unfold RO TO ae;simp only [go_sem]) (by unfold RO TO;simp only [go_sem]) ?_
 rintro _ _ ⟨rfl,rfl⟩
 unfold RO TO ae
 simp only [go_sem]
 refine aj E (fun h=>?_) (fun h=>?_)<;>simp only [go_sem]
 ·refine ⟨_,_,[100,101],id,⟨rfl,rfl⟩,?_⟩
  rw [← hX,if_pos h]
  simp only [go_sem]
 ·refine ⟨_,_,[100,101],id,⟨rfl,rfl⟩,?_⟩
  rw [← hX,if_neg h]
  simp only [go_sem]
theorem iE (s:PS):s.peek=bE s.l s.fin:=rfl
theorem mm {G} (s:PS) (hl:s.l.length≤1000000):HCall Tryz.prog G 55 [.at [100] 0] (RO s) [100,101] (fun r hp'=>r=.tup []∧hp'=RO s.wrong):=by
 generalize hX:s.wrong=X
 unfold PS.wrong at hX
 rw [iE] at hX
 unfold RO TO ae
 refine ai Tryz.func55 rfl (by decide +kernel) (by simp [Tryz.ntmps55]) (veil fun E=>?_)
 simp only [go_sem]
 refine ab E [.at [101] 0] (TO s.l s.fin) [101] (cZ s.l s.fin hl) rfl rfl ⟨by simp only [go_sem],by rw [aa];decide⟩ rfl (by unfold TO ae;simp only [go_sem]) (by unfold TO;simp only [go_sem]) ?_
 rintro _ _ ⟨rfl,rfl⟩
 unfold TO ae
 simp only [go_sem]
 refine ab E [.at [100] 0,.d (i64 5),.d (i64 (bE s.l s.fin).pos)] (RO s) [100,101] (mw s 5 (bE s.l s.fin).pos) rfl rfl ⟨by simp only [go_sem],by rw [aa];decide⟩ rfl (by unfold RO TO ae;simp only [go_sem]) (by unfold RO TO;simp only [go_sem]) ?_
 rintro _ _ ⟨rfl,rfl⟩
 unfold RO TO ae
 simp only [go_sem]
 refine ⟨_,_,[100,101],id,⟨rfl,rfl⟩,?_⟩
 rw [← hX]
 simp only [go_sem]
end Go.Proofs.YtejpnabbmgpmaaaGreat

namespace Go.Proofs.YtejpnabbmgpmaaaGreat
open Go.Ab
theorem pg {G} (s:PS) (k:Int) (t:List UInt8) (hl:s.l.length≤1000000) (hk:k≠0∧k≠4):HCall Tryz.prog G 147 [.at [100] 0,.d (i64 k),.d (.str t)] (RO s) [100,101] (fun r hp'=>r=.d (.bool (s.sees k t))∧hp'=RO (s.may k t)):=by
 have h0:=BE (G:=G) s.l s.fin k t hl hk
 generalize hb:isT s.l s.fin k t=b at h0
 obtain ⟨c,hc⟩:∃ c,c=s.sees k t:=⟨_,rfl⟩
 generalize hX:s.may k t=X
 rw [← hc]
 have hc':c=(decide (s.err=0) && b):=by rw [hc,← hb];rfl
 have hX':X=if c then s.next else s:=by rw [hc,← hX];rfl
 unfold PS.next at hX'
 generalize hY:(if b then s.l.tail else s.l)=Y at h0
 unfold RO TO ae
 refine ai Tryz.func147 rfl (by decide +kernel) (by simp [Tryz.ntmps147]) (veil fun E=>?_)
 simp only [go_sem]
 refine ab E [.at [100] 0] (RO s) [100,101] (eC s) rfl rfl ⟨by simp only [go_sem],by first | (rw [aa];decide) | (simp only [go_sem]<;>(try rw [aa])<;>decide)⟩ rfl (by unfold RO TO ae;simp only [go_sem]) (by unfold RO TO;simp only [go_sem]) ?_
 rintro _ _ ⟨rfl,rfl⟩
 unfold RO TO ae
 simp only [go_sem]
 refine aD E (fun h=>?_) (fun h=>?_)<;>simp only [go_sem]
 ·refine ab E [.at [101] 0,.d (i64 k),.d (.str t)] (TO s.l s.fin) [101] (h0) rfl rfl ⟨by simp only [go_sem],by first | (rw [aa];decide) | (simp only [go_sem]<;>(try rw [aa])<;>decide)⟩ rfl (by unfold TO ae;simp only [go_sem]) (by unfold TO;simp only [go_sem]) ?_
  rintro _ _ ⟨rfl,rfl⟩
  unfold TO ae
  simp only [go_sem]
  refine ⟨_,_,[100,101],id,⟨rfl,rfl⟩,?_⟩
  simp only [go_sem]
  rw [decide_eq_true h,Bool.true_and] at hc'
  rw [hc'] at hX'
  rw [hc']
  subst hX' hY
  cases b<;>exact ⟨rfl,rfl,rfl⟩
 ·refine ⟨_,_,[100,101],id,⟨rfl,rfl⟩,?_⟩
  simp only [go_sem]
  rw [decide_eq_false h,Bool.false_and] at hc'
  rw [hc'] at hX'
  subst hX'
  rw [hc']
  exact ⟨rfl,rfl,rfl⟩
theorem iP {G} (s:PS) (t:List UInt8) (hl:s.l.length≤1000000):HCall Tryz.prog G 95 [.at [100] 0,.d (.str t)] (RO s) [100,101] (fun r hp'=>r=.d (.bool (s.sees 1 t))∧hp'=RO (s.may 1 t)):=by
 have h0:=pg (G:=G) s 1 t hl (by decide)
 generalize s.sees 1 t=c at h0 ⊢
 generalize s.may 1 t=X at h0 ⊢
 unfold RO TO ae
 refine ai Tryz.func95 rfl (by decide +kernel) (by simp [Tryz.ntmps95]) (veil fun E=>?_)
 simp only [go_sem]
 refine ab E [.at [100] 0,.d (i64 1),.d (.str t)] (RO s) [100,101] (h0) rfl rfl ⟨by simp only [go_sem],by first | (rw [aa];decide) | (simp only [go_sem]<;>(try rw [aa])<;>decide)⟩ rfl (by unfold RO TO ae;simp only [go_sem]) (by unfold RO TO;simp only [go_sem]) ?_
 rintro _ _ ⟨rfl,rfl⟩
 unfold RO TO ae
 simp only [go_sem]
 refine ⟨_,_,[100,101],id,⟨rfl,rfl⟩,?_⟩
 simp only [go_sem]
theorem iu {G} (s:PS) (t:List UInt8) (hl:s.l.length≤1000000):HCall Tryz.prog G 224 [.at [100] 0,.d (.str t)] (RO s) [100,101] (fun r hp'=>r=.d (.bool (s.sees 7 t))∧hp'=RO (s.may 7 t)):=by
 have h0:=pg (G:=G) s 7 t hl (by decide)
 generalize s.sees 7 t=c at h0 ⊢
 generalize s.may 7 t=X at h0 ⊢
 unfold RO TO ae
 refine ai Tryz.func224 rfl (by decide +kernel) (by simp [Tryz.ntmps224]) (veil fun E=>?_)
 simp only [go_sem]
 refine ab E [.at [100] 0,.d (i64 7),.d (.str t)] (RO s) [100,101] (h0) rfl rfl ⟨by simp only [go_sem],by first | (rw [aa];decide) | (simp only [go_sem]<;>(try rw [aa])<;>decide)⟩ rfl (by unfold RO TO ae;simp only [go_sem]) (by unfold RO TO;simp only [go_sem]) ?_
 rintro _ _ ⟨rfl,rfl⟩
 unfold RO TO ae
 simp only [go_sem]
 refine ⟨_,_,[100,101],id,⟨rfl,rfl⟩,?_⟩
 simp only [go_sem]
theorem eE {G} (s:PS) (k:Int) (t:List UInt8) (hl:s.l.length≤1000000) (hk:k≠0∧k≠4):HCall Tryz.prog G 97 [.at [100] 0,.d (i64 k),.d (.str t)] (RO s) [100,101] (fun r hp'=>r=.tup []∧hp'=RO (s.must k t)):=by
 have h0:=pg (G:=G) s k t hl hk
 have h1:=mm (G:=G) s hl
 generalize hX:s.must k t=X
 generalize hY:s.may k t=Y at h0
 generalize hZ:s.wrong=Z at h1
 generalize hb:s.sees k t=b at h0
 have hX':X=if b then Y else Z:=by rw [← hX,← hY,← hZ,← hb];unfold PS.must PS.may;cases s.sees k t<;>rfl
 have hYs:b=false→Y=s:=by rw [← hY,← hb];unfold PS.may;intro h;rw [h];rfl
 unfold RO TO ae
 refine ai Tryz.func97 rfl (by decide +kernel) (by simp [Tryz.ntmps97]) (veil fun E=>?_)
 simp only [go_sem]
 refine ab E [.at [100] 0,.d (i64 k),.d (.str t)] (RO s) [100,101] (h0) rfl rfl ⟨by simp only [go_sem],by first | (rw [aa];decide) | (simp only [go_sem]<;>(try rw [aa])<;>decide)⟩ rfl (by unfold RO TO ae;simp only [go_sem]) (by unfold RO TO;simp only [go_sem]) ?_
 rintro _ _ ⟨rfl,rfl⟩
 unfold RO TO ae
 simp only [go_sem]
 refine aI E (fun h=>?_) (fun h=>?_)<;>simp only [go_sem]
 ·have h':b=false:=by simpa using h
  rw [hYs h']
  refine ab E [.at [100] 0] (RO s) [100,101] (h1) rfl rfl ⟨by simp only [go_sem],by first | (rw [aa];decide) | (simp only [go_sem]<;>(try rw [aa])<;>decide)⟩ rfl (by unfold RO TO ae;simp only [go_sem]) (by unfold RO TO;simp only [go_sem]) ?_
  rintro _ _ ⟨rfl,rfl⟩
  unfold RO TO ae
  simp only [go_sem]
  refine ⟨_,_,[100,101],id,⟨rfl,rfl⟩,?_⟩
  simp only [go_sem]
  rw [hX',h']
  exact ⟨rfl,rfl⟩
 ·have h':b=true:=by simpa using h
  refine ⟨_,_,[100,101],id,⟨rfl,rfl⟩,?_⟩
  simp only [go_sem]
  rw [hX',h']
  exact ⟨rfl,rfl⟩
theorem j3 {G} (s:PS) (k:Int) (hl:s.l.length≤1000000):HCall Tryz.prog G 96 [.at [100] 0,.d (i64 k)] (RO s) [100,101] (fun r hp'=>r=.d (.str (s.of k).1)∧hp'=RO (s.of k).2):=by
 have h0:=mm (G:=G) s hl
 have h1:=iv (G:=G) s.l s.fin hl
 generalize hX:s.of k=X
 unfold PS.of PS.has at hX
 rw [iE] at hX
 unfold RO TO ae
 refine ai Tryz.func96 rfl (by decide +kernel) (by simp [Tryz.ntmps96]) (veil fun E=>?_)
 simp only [go_sem]
 refine ab E [.at [100] 0] (RO s) [100,101] (eC s) rfl rfl ⟨by simp only [go_sem],by first | (rw [aa];decide) | (simp only [go_sem]<;>(try rw [aa])<;>decide)⟩ rfl (by unfold RO TO ae;simp only [go_sem]) (by unfold RO TO;simp only [go_sem]) ?_
 rintro _ _ ⟨rfl,rfl⟩
 unfold RO TO ae
 simp only [go_sem]
 refine cY E (fun h=>?_) (fun h=>?_)<;>simp only [go_sem]
 ·have h':¬ s.err=0:=by simpa using h
  refine ab E [.at [100] 0] (RO s) [100,101] (h0) rfl rfl ⟨by simp only [go_sem],by first | (rw [aa];decide) | (simp only [go_sem]<;>(try rw [aa])<;>decide)⟩ rfl (by unfold RO TO ae;simp only [go_sem]) (by unfold RO TO;simp only [go_sem]) ?_
  rintro _ _ ⟨rfl,rfl⟩
  unfold RO TO ae
  simp only [go_sem]
  refine ⟨_,_,[100,101],id,⟨rfl,rfl⟩,?_⟩
  simp only [go_sem]
  rw [← hX,decide_eq_false h']
  exact ⟨rfl,rfl,rfl⟩
 ·have h':s.err=0:=by simpa using h
  refine ab E [.at [101] 0] (TO s.l s.fin) [101] (cZ s.l s.fin hl) rfl rfl ⟨by simp only [go_sem],by first | (rw [aa];decide) | (simp only [go_sem]<;>(try rw [aa])<;>decide)⟩ rfl (by unfold TO ae;simp only [go_sem]) (by unfold TO;simp only [go_sem]) ?_
  rintro _ _ ⟨rfl,rfl⟩
  unfold TO ae
  simp only [go_sem]
  refine aj E (fun h2=>?_) (fun h2=>?_)<;>simp only [go_sem]
  ·refine ab E [.at [100] 0] (RO s) [100,101] (h0) rfl rfl ⟨by simp only [go_sem],by first | (rw [aa];decide) | (simp only [go_sem]<;>(try rw [aa])<;>decide)⟩ rfl (by unfold RO TO ae;simp only [go_sem]) (by unfold RO TO;simp only [go_sem]) ?_
   rintro _ _ ⟨rfl,rfl⟩
   unfold RO TO ae
   simp only [go_sem]
   refine ⟨_,_,[100,101],id,⟨rfl,rfl⟩,?_⟩
   simp only [go_sem]
   rw [← hX,decide_eq_true h',decide_eq_false h2]
   exact ⟨rfl,rfl,rfl⟩
  ·have h2':(bE s.l s.fin).k=k:=by simpa using h2
   refine ab E [.at [101] 0] (TO s.l s.fin) [101] (h1) rfl rfl ⟨by simp only [go_sem],by first | (rw [aa];decide) | (simp only [go_sem]<;>(try rw [aa])<;>decide)⟩ rfl (by unfold TO ae;simp only [go_sem]) (by unfold TO;simp only [go_sem]) ?_
   rintro _ _ ⟨rfl,rfl⟩
   unfold TO ae
   simp only [go_sem]
   refine ⟨_,_,[100,101],id,⟨rfl,rfl⟩,?_⟩
   simp only [go_sem]
   rw [← hX,decide_eq_true h',decide_eq_true h2']
   exact ⟨rfl,rfl,rfl⟩
inductive DLe:D→D→Prop
 | refl (x):DLe x x
 | nil (w):DLe .nils (.sl w [])
 | agg (cs ds:List D) (hl:cs.length=ds.length) (hc:∀ d∈ds,d.scal=true) (h:∀ (i:Nat) x y,cs[i]?=some x→ds[i]?=some y→x=y∨∃ w,x=.nils∧y=.sl w []):DLe (.agg cs) (.agg ds)
theorem DLe.rep {x y:D} (h:DLe x y) {H own v} (hr:Rep H own v x):Rep H own v y:=by
 cases h with
 | refl=>exact hr
 | nil w=>cases hr;exact .sl0 _ _ _
 | agg cs ds hl hc h =>
   cases hr with
   | agg vs _ hs _ h' =>
     refine .agg vs ds (hs.trans hl) hc fun i d hd=>?_
     have hlt:=(List.getElem?_eq_some_iff.1 hd).1
     have hx:cs[i]?=some (cs[i]'(by omega)):=List.getElem?_eq_getElem _
     have hr:=h' i _ hx
     rcases h i _ _ hx hd with e | ⟨w,e1,e2⟩
     ·rw [← e];exact hr
     ·rw [e1] at hr
      rw [e2]
      generalize vs.getD i undef=v at hr ⊢
      cases hr
      exact .sl0 _ _ _
theorem HP.le {P:Program} {G:List (Nat × Obj)} {f:FuncId} {args args':List D} {Q:AV→Prop} (hl:args.length=args'.length)
  (hr:∀ (i:Nat) x y,args[i]?=some x→args'[i]?=some y→DLe x y) (h:HP P G f args' Q):HP P G f args Q:=by
 refine ⟨h.1,fun B β vs w h1 h2 h3 h4 h5=>h.2 B β vs w (h1.trans (by simpa using hl)) h2 h3 h4 { tms:=h5.tms,io:=h5.io,size:=h5.size,frame:=h5.frame,slots:=fun t=>?_,objs:=h5.objs,blocks:=h5.blocks,inj:=h5.inj,us:=h5.us,stay:=h5.stay }⟩
 have hv:=h5.slots t
 rw [dS,aM,if_pos (Nat.zero_le _),Nat.sub_zero] at hv ⊢
 show VR w.heap ((mk (aw 0 (args.map .d)) [] []).own B.A β) [] _ β _ _
 rw [List.getElem?_map] at hv ⊢
 cases hx:args[t]? with
 | none => 
   rw [List.getElem?_eq_none (by rw [← hl];exact List.getElem?_eq_none_iff.1 hx)]
   exact .un _
 | some x =>
   have hlt:=(List.getElem?_eq_some_iff.1 hx).1
   have hy:args'[t]?=some args'[t]:=List.getElem?_eq_getElem (by omega)
   rw [hx] at hv
   rw [hy]
   simp only [Option.map_some] at hv ⊢
   generalize vs.getD t undef=v at hv ⊢
   cases hv with
   | d _ _ hv=>exact .d _ _ ((hr t _ _ hx hy).rep hv)
def ndN (n:EN):D:=.agg [i64 n.k,i64 n.a,i64 n.b,i64 n.c,i64 n.n,.str n.name,.str n.s,.nils,i64 n.pos]
theorem y0 {n:EN} (h:n.l=[]):DLe (ndN n) (enD n):=by
 unfold ndN enD efD
 rw [h]
 refine .agg _ _ rfl (by simp [D.scal]) fun i x y hx hy=>?_
 by_cases hi:i=7
 ·subst hi
  cases hx;cases hy
  exact .inr ⟨_,rfl,rfl⟩
 ·left
  have:i<9:=by have:=(List.getElem?_eq_some_iff.1 hx).1;simpa using this
  rcases i with _ | _ | _ | _ | _ | _ | _ | _ | _ | i<;>first | omega | (cases hx;cases hy;rfl)
theorem iO {G} (n:EN) (ls:List (List EN)) (hn:n.l=[]) (hL:ls.length≤1000000) (hS:aV ls≤1000000) (hk:∀ l∈ls,∀ m∈l,fO l.length m) (hw:∀ l∈ls,eY 900000 l) :
  HP Tryz.prog G 86 [ndN n,.sl (some 1) (ls.map exD)] (fun r=>r=.d (exD (ax n ls))) :=
 HP.le (args':=[enD n,.sl (some 1) (ls.map exD)]) rfl (h:=pO n ls (by rw [hn];exact Nat.zero_le _) hL hS hk hw) fun i x y hx hy=>by
  rcases i with _ | _ | i
  ·cases hx;cases hy;exact y0 hn
  ·cases hx;cases hy;exact .refl _
  ·cases hx
theorem FK {G} (n:EN) (hn:n.l=[]):HP Tryz.prog G 86 [ndN n,.nils] (fun r=>r=.d (exD (bV n))) :=
 HP.le (args':=[enD n,.sl (some 1) ([].map exD)]) rfl (h:=pO n [] (by rw [hn];exact Nat.zero_le _) (Nat.zero_le _) (Nat.zero_le _) (fun l h=>by cases h) (fun l h=>by cases h)) fun i x y hx hy=>by
  rcases i with _ | _ | i
  ·cases hx;cases hy;exact y0 hn
  ·cases hx;cases hy;exact .nil _
  ·cases hx
theorem eV {G} (n:EN) (hn:n.l=[]):HP Tryz.prog G 93 [ndN n] (fun r=>r=.d (exD (bV n))):=by
 have h0:=FK (G:=G) n hn
 generalize bV n=X at h0 ⊢
 unfold ndN at *
 refine bP Tryz.func93 rfl (by decide +kernel) (by simp [Tryz.ntmps93]) (veil fun E=>?_)
 simp only [go_sem]
 refine ag E h0 rfl rfl (by simp) ?_
 rintro _ rfl
 unfold exD
 simp only [go_sem]
 refine ⟨[],?_⟩
 simp only [go_sem]
 rfl
end Go.Proofs.YtejpnabbmgpmaaaGreat

namespace Go.Proofs.YtejpnabbmgpmaaaGreat
open Go.Ab
abbrev OPS:=List (List UInt8 × Int)
def opL (l:OPS):D:=.sl (some 2) (l.map fun q=>.agg [.str q.1,i64 q.2])
def opN (s:PS) (l:OPS):EN:=match opS s l with | some n=>{ nd0 10 s.peek.pos with n:=n } | none=>nd0 0 0
def opR (s:PS) (l:OPS):PS:=match opS s l with | some _=>s.next | none=>s
theorem AE {s:PS} {l:OPS} {i:Nat} (h:i<l.length):opS s (l.drop i)=if s.sees 7 l[i].1 then some l[i].2 else opS s (l.drop (i+1)):=by
 rw [List.drop_eq_getElem_cons h,opS]
theorem pL {G} (s:PS) (l:OPS) (hl:s.l.length≤1000000) (hn:l.length≤1000):HCall Tryz.prog G 150 [.at [100] 0,.d (opL l)] (RO s) [100,101] (fun r hp'=>r=.tup [.d (ndN (opN s l)),.d (.bool (opS s l).isSome)]∧hp'=RO (opR s l)):=by
 generalize hO:opS s l=o
 generalize hN:opN s l=N
 generalize hR:opR s l=R
 unfold RO TO ae opL
 refine ai Tryz.func150 rfl (by decide +kernel) (by simp [Tryz.ntmps150]) (veil fun E=>?_)
 simp only [go_sem]
 refine ab E [.at [101] 0] (TO s.l s.fin) [101] (cZ s.l s.fin hl) rfl rfl ⟨by simp only [go_sem],by first | (rw [aa];decide) | (simp only [go_sem]<;>(try rw [aa])<;>decide)⟩ rfl (by unfold TO ae;simp only [go_sem]) (by unfold TO;simp only [go_sem]) ?_
 rintro _ _ ⟨rfl,rfl⟩
 unfold TO ae
 simp only [go_sem]
 refine aG E (X:={ i:Nat // i≤l.length∧opS s (l.drop i)=o }) (fun x=>[(0,.at [100] 0),(4,.at [4] 0),(5,.d (.bool false)),(6,.d (i64 (bE s.l s.fin).pos)),(15,.d (.sl (some 2) (l.map fun q=>.agg [.str q.1,i64 q.2]))),(16,.d (i64 l.length)),(17,.d (i64 x.1))])
  (fun x=>[([4],.box [.d (i64 0),.d (i64 0),.d (i64 0),.d (i64 0),.d (i64 0),.d (.str []),.d (.str []),.d .nils,.d (i64 0)]),([100],.box [.at [101] 0,.d (i64 s.err),.d (i64 s.pos),.d (i64 s.nest)]),([101],.box [.d (.sl (some 4) (s.l.map fU)),.d (i64 s.fin)])]) [4,100,101] (fun x=>l.length-x.1) ⟨0,Nat.zero_le _,by rw [List.drop_zero];exact hO⟩ id ?_ ?_
 ·simp only [go_sem]
  all_goals rfl
 rintro ⟨i,hi,ho⟩ E0
 refine aZ E0 fun Q' hQ E'=>?_
 simp only at hi ⊢
 simp only [go_sem]
 refine aj E' (fun h1=>?_) (fun h1=>?_)<;>simp only [go_sem]
 ·have h1':i<l.length:=by omega
  rw [AE h1'] at ho
  refine ⟨⟨by omega,by omega⟩,?_⟩
  rw [show (l.map fun q=>D.agg [.str q.1,i64 q.2]).getD i .nilp=.agg [.str l[i].1,i64 l[i].2] by simp [h1']]
  simp only [go_sem]
  have h0:=iu (G:=G) s l[i].1 hl
  generalize hb:s.sees 7 l[i].1=b at h0 ho
  generalize hM:s.may 7 l[i].1=M at h0
  refine ab E' [.at [100] 0,.d (.str l[i].1)] (RO s) [100,101] (h0) rfl rfl ⟨by simp only [go_sem],by first | (rw [aa];decide) | (simp only [go_sem]<;>(try rw [aa])<;>decide)⟩ rfl (by unfold RO TO ae;simp only [go_sem]) (by unfold RO TO;simp only [go_sem]) ?_
  rintro _ _ ⟨rfl,rfl⟩
  unfold RO TO ae
  simp only [go_sem]
  refine aI E' (fun h=>?_) (fun h=>?_)<;>simp only [go_sem]
  ·rw [hQ]
   simp only [go_sem]
   rw [if_pos h] at ho
   refine ⟨_,_,[100,101],id,⟨rfl,rfl⟩,?_⟩
   simp only [go_sem]
   have hM':M=s.next:=by rw [← hM];unfold PS.may;rw [hb,h];rfl
   rw [← hN,← hR,hM',← ho]
   unfold opN opR
   rw [hO,← ho]
   exact ⟨rfl,rfl,rfl⟩
  ·rw [hQ]
   simp only [go_sem]
   rw [if_neg (by simpa using h)] at ho
   have hM':M=s:=by rw [← hM];unfold PS.may;rw [hb,h];rfl
   rw [hM',ao ⟨by omega,by omega⟩]
   refine ⟨⟨i+1,by omega,ho⟩,by show l.length-(i+1)<_;omega,id,?_⟩
   simp only [go_sem]
   all_goals rfl
 ·rw [hQ]
  have hi2:i=l.length:=by omega
  rw [hi2,List.drop_length] at ho
  simp only [go_sem]
  refine ⟨_,_,[100,101],id,⟨rfl,rfl⟩,?_⟩
  simp only [go_sem]
  rw [← hN,← hR]
  unfold opN opR
  rw [hO,← ho]
  exact ⟨rfl,rfl,rfl⟩
end Go.Proofs.YtejpnabbmgpmaaaGreat

namespace Go.Proofs.YtejpnabbmgpmaaaGreat
open Go.Ab
def Reads (f:Nat) (G:List (Nat × Obj)) (N:Nat) (sub:PS→PR):Prop:=∀ s:PS,s.l.length≤100000→s.nest=N→HCall Tryz.prog G f [.at [100] 0] (RO s) [100,101] (fun r hp'=>r=.d (exD (sub s).1)∧hp'=RO (sub s).2)
theorem Bt {G} {N:Nat} {ex:PS→PR} (hex:∀ s,GP 1 s (ex s)) (hc:Reads 271 G N (jW ex)):Reads 223 G N (iN ex):=by
 intro s hl hN
 have hsg:=gI hex
 obtain ⟨sub,hsub⟩:∃ sub,sub=jW ex:=⟨_,rfl⟩
 have hF:iN ex s=ja eP sub (sub s).2.l.length.succ (sub s).1 (sub s).2:=by rw [hsub];rfl
 rw [hF]
 rw [← hsub] at hc hsg
 generalize hR:ja eP sub (sub s).2.l.length.succ (sub s).1 (sub s).2=R
 have h0:=hsg s
 obtain ⟨a0,s0,hs0⟩:∃ a0 s0,sub s=(a0,s0):=⟨_,_,rfl⟩
 have hc0:=hc s hl hN
 rw [hs0] at hR h0 hc0
 simp only at hR hc0
 unfold RO TO ae
 refine ai Tryz.func223 rfl (by decide +kernel) (by simp [Tryz.ntmps223]) (veil fun E=>?_)
 simp only [go_sem]
 refine ab E [.at [100] 0] (RO s) [100,101] (hc0) rfl rfl ⟨by simp only [go_sem],by first | (rw [aa];decide) | (simp only [go_sem]<;>(try rw [aa])<;>decide)⟩ rfl (by unfold RO TO ae;simp only [go_sem]) (by unfold RO TO;simp only [go_sem]) ?_
 rintro _ _ ⟨rfl,rfl⟩
 unfold RO TO ae
 simp only [go_sem]
 unfold exD
 simp only [go_sem]
 refine aG E (X:={ x:Nat × List EN × PS // ja eP sub x.1 x.2.1 x.2.2=R∧GP 1 s x.2∧x.2.2.l.length<x.1 }) (fun x=>[(0,.at [100] 0),(2,.at [2] 0),(3,.at [3] 0)])
  (fun x=>[([2],.box [.d .nils]),([3],.box [.d (.sl (some 9) (x.1.2.1.map enD))]),([100],.box [.at [101] 0,.d (i64 x.1.2.2.err),.d (i64 x.1.2.2.pos),.d (i64 x.1.2.2.nest)]),([101],.box [.d (.sl (some 4) (x.1.2.2.l.map fU)),.d (i64 x.1.2.2.fin)])]) [2,3,100,101] (fun x=>x.1.2.2.l.length) ⟨(s0.l.length.succ,a0,s0),hR,h0,Nat.lt_succ_self _⟩ id ?_ ?_
 ·simp only [go_sem]
  all_goals rfl
 rintro ⟨⟨m,a,q⟩,hb,hg,hm⟩ E0
 refine aZ E0 fun Q' hQ E'=>?_
 simp only at hb hg hm ⊢
 have hql:q.l.length≤s.l.length:=hg.ss.len
 obtain ⟨m,rfl⟩:∃ k,m=k+1:=⟨m-1,by omega⟩
 rw [ja] at hb
 simp only [go_sem]
 refine yk E' [12] (some 2) [.agg [.str [42],i64 3],.agg [.str [47],i64 4]] rfl ?_
 rw [pn]
 simp only [go_sem]
 have h1:=pL (G:=G) q eP (by omega) (by decide)
 unfold opR opN at h1
 cases ho:opS q eP with
 | none =>
   rw [ho] at h1 hb
   simp only at h1 hb
   subst hb
   unfold ndN at h1
   refine ab E' [.at [100] 0,.d (opL eP)] (RO q) [100,101] (h1) rfl rfl ⟨by simp only [go_sem],by first | (rw [aa];decide) | (simp only [go_sem]<;>(try rw [aa])<;>decide)⟩ rfl (by unfold RO TO ae;simp only [go_sem]) (by unfold RO TO;simp only [go_sem]) ?_
   rintro _ _ ⟨rfl,rfl⟩
   unfold RO TO ae
   simp only [go_sem]
   rw [hQ]
   simp only [go_sem]
   refine ⟨_,_,[100,101],id,⟨rfl,rfl⟩,?_⟩
   simp only [go_sem]
   rfl
 | some n =>
   rw [ho] at h1 hb
   simp only at h1 hb
   unfold ndN at h1
   refine ab E' [.at [100] 0,.d (opL eP)] (RO q) [100,101] (h1) rfl rfl ⟨by simp only [go_sem],by first | (rw [aa];decide) | (simp only [go_sem]<;>(try rw [aa])<;>decide)⟩ rfl (by unfold RO TO ae;simp only [go_sem]) (by unfold RO TO;simp only [go_sem]) ?_
   rintro _ _ ⟨rfl,rfl⟩
   unfold RO TO ae
   simp only [go_sem]
   refine ah mixed E' fun X=>?_
   simp only [go_sem]
   obtain ⟨b0,q1,hq1⟩:∃ b0 q1,sub q.next=(b0,q1):=⟨_,_,rfl⟩
   have h2:=hc q.next (by have:=(SS.next q).len;omega) ((SS.next q).nest.trans (hg.ss.nest.trans hN))
   have h3:=hsg q.next
   rw [hq1] at h2 h3 hb
   unfold exD at h2
   refine aR X [.at [100] 0] (RO q.next) [100,101] _ _ h2 rfl rfl ⟨by simp only [go_sem],by rw [aa];decide⟩ rfl (by unfold RO TO ae;simp only [go_sem]) (by unfold RO TO;simp only [go_sem]) (by unfold RO TO;simp only [go_sem]) ?_
   unfold RO TO ae
   simp only [go_sem]
   have ht2:=h3.tr
   have hz1:=hg.sz
   have hz2:=h3.sz
   have hn2:=(SS.next q).len
   simp only at ht2 hz1 hz2
   have h4:=iO (G:=G) { nd0 10 q.peek.pos with n:=n } [a,b0] rfl (by simp) (by simp only [aV,List.map_cons,List.map_nil,List.sum_cons,List.sum_nil];omega)
    (fun l h=>by
     rcases List.mem_cons.1 h with rfl | h
     ·exact hg.tr.kids.2
     ·rw [List.mem_singleton.1 h];exact ht2.kids.2)
    (fun l h=>by
     rcases List.mem_cons.1 h with rfl | h
     ·exact hg.wd.mono (by omega)
     ·rw [List.mem_singleton.1 h];exact h3.wd.mono (by omega))
   have h5:=GP.rF (e:=1) (n:={ nd0 10 q.peek.pos with n:=n }) (s1:=s) (a:=(a,q)) (b:=(b0,q1)) hg h3 (SS.refl s) (SS.next q) rfl rfl (by have:=gq ho;simp only;omega)
   simp only at h5
   generalize ax { nd0 10 q.peek.pos with n:=n } [a,b0]=J at h4 h5 hb
   unfold exD at h4
   refine bX X 23 [23] (some 1) [.agg [.sl (some 9) (a.map enD)],.agg [.sl (some 9) (b0.map enD)]] h4 (fun _=>rfl) rfl rfl rfl (by simp) rfl (by simp only [go_sem]) ?_
   simp only [go_sem]
   refine ⟨by decide +kernel,?_⟩
   rw [hQ]
   simp only [go_sem]
   refine ⟨⟨(m,J,q1),hb,h5,by have:=gq ho;have:=h3.ss.len;show q1.l.length<m;simp only at this;omega⟩,by have:=gq ho;have:=h3.ss.len;show q1.l.length<q.l.length;simp only at this;omega,id,?_⟩
   simp only [go_sem]
   all_goals rfl
theorem Cm {G} {N:Nat} {ex:PS→PR} (hex:∀ s,GP 1 s (ex s)) (hc:Reads 223 G N (iN ex)):Reads 149 G N (rG ex):=by
 intro s hl hN
 have hsg:=eX hex
 obtain ⟨sub,hsub⟩:∃ sub,sub=iN ex:=⟨_,rfl⟩
 have hF:rG ex s=ja gY sub (sub s).2.l.length.succ (sub s).1 (sub s).2:=by rw [hsub];rfl
 rw [hF]
 rw [← hsub] at hc hsg
 generalize hR:ja gY sub (sub s).2.l.length.succ (sub s).1 (sub s).2=R
 have h0:=hsg s
 obtain ⟨a0,s0,hs0⟩:∃ a0 s0,sub s=(a0,s0):=⟨_,_,rfl⟩
 have hc0:=hc s hl hN
 rw [hs0] at hR h0 hc0
 simp only at hR hc0
 unfold RO TO ae
 refine ai Tryz.func149 rfl (by decide +kernel) (by simp [Tryz.ntmps149]) (veil fun E=>?_)
 simp only [go_sem]
 refine ab E [.at [100] 0] (RO s) [100,101] (hc0) rfl rfl ⟨by simp only [go_sem],by first | (rw [aa];decide) | (simp only [go_sem]<;>(try rw [aa])<;>decide)⟩ rfl (by unfold RO TO ae;simp only [go_sem]) (by unfold RO TO;simp only [go_sem]) ?_
 rintro _ _ ⟨rfl,rfl⟩
 unfold RO TO ae
 simp only [go_sem]
 unfold exD
 simp only [go_sem]
 refine aG E (X:={ x:Nat × List EN × PS // ja gY sub x.1 x.2.1 x.2.2=R∧GP 1 s x.2∧x.2.2.l.length<x.1 }) (fun x=>[(0,.at [100] 0),(2,.at [2] 0),(3,.at [3] 0)])
  (fun x=>[([2],.box [.d .nils]),([3],.box [.d (.sl (some 9) (x.1.2.1.map enD))]),([100],.box [.at [101] 0,.d (i64 x.1.2.2.err),.d (i64 x.1.2.2.pos),.d (i64 x.1.2.2.nest)]),([101],.box [.d (.sl (some 4) (x.1.2.2.l.map fU)),.d (i64 x.1.2.2.fin)])]) [2,3,100,101] (fun x=>x.1.2.2.l.length) ⟨(s0.l.length.succ,a0,s0),hR,h0,Nat.lt_succ_self _⟩ id ?_ ?_
 ·simp only [go_sem]
  all_goals rfl
 rintro ⟨⟨m,a,q⟩,hb,hg,hm⟩ E0
 refine aZ E0 fun Q' hQ E'=>?_
 simp only at hb hg hm ⊢
 have hql:q.l.length≤s.l.length:=hg.ss.len
 obtain ⟨m,rfl⟩:∃ k,m=k+1:=⟨m-1,by omega⟩
 rw [ja] at hb
 simp only [go_sem]
 refine yk E' [13] (some 2) [.agg [.str [43],i64 1],.agg [.str [45],i64 2],.agg [.str [94],i64 7]] rfl ?_
 rw [pn]
 simp only [go_sem]
 have h1:=pL (G:=G) q gY (by omega) (by decide)
 unfold opR opN at h1
 cases ho:opS q gY with
 | none =>
   rw [ho] at h1 hb
   simp only at h1 hb
   subst hb
   unfold ndN at h1
   refine ab E' [.at [100] 0,.d (opL gY)] (RO q) [100,101] (h1) rfl rfl ⟨by simp only [go_sem],by first | (rw [aa];decide) | (simp only [go_sem]<;>(try rw [aa])<;>decide)⟩ rfl (by unfold RO TO ae;simp only [go_sem]) (by unfold RO TO;simp only [go_sem]) ?_
   rintro _ _ ⟨rfl,rfl⟩
   unfold RO TO ae
   simp only [go_sem]
   rw [hQ]
   simp only [go_sem]
   refine ⟨_,_,[100,101],id,⟨rfl,rfl⟩,?_⟩
   simp only [go_sem]
   rfl
 | some n =>
   rw [ho] at h1 hb
   simp only at h1 hb
   unfold ndN at h1
   refine ab E' [.at [100] 0,.d (opL gY)] (RO q) [100,101] (h1) rfl rfl ⟨by simp only [go_sem],by first | (rw [aa];decide) | (simp only [go_sem]<;>(try rw [aa])<;>decide)⟩ rfl (by unfold RO TO ae;simp only [go_sem]) (by unfold RO TO;simp only [go_sem]) ?_
   rintro _ _ ⟨rfl,rfl⟩
   unfold RO TO ae
   simp only [go_sem]
   refine ah mixed E' fun X=>?_
   simp only [go_sem]
   obtain ⟨b0,q1,hq1⟩:∃ b0 q1,sub q.next=(b0,q1):=⟨_,_,rfl⟩
   have h2:=hc q.next (by have:=(SS.next q).len;omega) ((SS.next q).nest.trans (hg.ss.nest.trans hN))
   have h3:=hsg q.next
   rw [hq1] at h2 h3 hb
   unfold exD at h2
   refine aR X [.at [100] 0] (RO q.next) [100,101] _ _ h2 rfl rfl ⟨by simp only [go_sem],by rw [aa];decide⟩ rfl (by unfold RO TO ae;simp only [go_sem]) (by unfold RO TO;simp only [go_sem]) (by unfold RO TO;simp only [go_sem]) ?_
   unfold RO TO ae
   simp only [go_sem]
   have ht2:=h3.tr
   have hz1:=hg.sz
   have hz2:=h3.sz
   have hn2:=(SS.next q).len
   simp only at ht2 hz1 hz2
   have h4:=iO (G:=G) { nd0 10 q.peek.pos with n:=n } [a,b0] rfl (by simp) (by simp only [aV,List.map_cons,List.map_nil,List.sum_cons,List.sum_nil];omega)
    (fun l h=>by
     rcases List.mem_cons.1 h with rfl | h
     ·exact hg.tr.kids.2
     ·rw [List.mem_singleton.1 h];exact ht2.kids.2)
    (fun l h=>by
     rcases List.mem_cons.1 h with rfl | h
     ·exact hg.wd.mono (by omega)
     ·rw [List.mem_singleton.1 h];exact h3.wd.mono (by omega))
   have h5:=GP.rF (e:=1) (n:={ nd0 10 q.peek.pos with n:=n }) (s1:=s) (a:=(a,q)) (b:=(b0,q1)) hg h3 (SS.refl s) (SS.next q) rfl rfl (by have:=gq ho;simp only;omega)
   simp only at h5
   generalize ax { nd0 10 q.peek.pos with n:=n } [a,b0]=J at h4 h5 hb
   unfold exD at h4
   refine bX X 24 [24] (some 1) [.agg [.sl (some 9) (a.map enD)],.agg [.sl (some 9) (b0.map enD)]] h4 (fun _=>rfl) rfl rfl rfl (by simp) rfl (by simp only [go_sem]) ?_
   simp only [go_sem]
   refine ⟨by decide +kernel,?_⟩
   rw [hQ]
   simp only [go_sem]
   refine ⟨⟨(m,J,q1),hb,h5,by have:=gq ho;have:=h3.ss.len;show q1.l.length<m;simp only at this;omega⟩,by have:=gq ho;have:=h3.ss.len;show q1.l.length<q.l.length;simp only at this;omega,id,?_⟩
   simp only [go_sem]
   all_goals rfl
end Go.Proofs.YtejpnabbmgpmaaaGreat

namespace Go.Proofs.YtejpnabbmgpmaaaGreat
open Go.Ab
theorem CA {G} {N:Nat} {ex:PS→PR} (hex:∀ s,GP 1 s (ex s)) (hc:Reads 149 G N (rG ex)):Reads 100 G N (rP ex):=by
 intro s hl hN
 have hsg:=gW hex
 obtain ⟨sub,hsub⟩:∃ sub,sub=rG ex:=⟨_,rfl⟩
 have hF:rP ex s=match opS (sub s).2 iR with
  | some n=>(ax { nd0 10 (sub s).2.peek.pos with n:=n } [(sub s).1,(sub (sub s).2.next).1],(sub (sub s).2.next).2)
  | none=>sub s:=by rw [hsub];rfl
 rw [hF]
 rw [← hsub] at hc hsg
 generalize hR:(match opS (sub s).2 iR with
  | some n=>(ax { nd0 10 (sub s).2.peek.pos with n:=n } [(sub s).1,(sub (sub s).2.next).1],(sub (sub s).2.next).2)
  | none=>sub s:PR)=R
 have hg:=hsg s
 obtain ⟨a,q,hs0⟩:∃ a q,sub s=(a,q):=⟨_,_,rfl⟩
 have hc0:=hc s hl hN
 rw [hs0] at hR hg hc0
 simp only at hR hc0
 have hql:q.l.length≤s.l.length:=hg.ss.len
 unfold exD at hc0
 have h1:=pL (G:=G) q iR (by omega) (by decide)
 unfold opR opN at h1
 unfold RO TO ae
 refine ai Tryz.func100 rfl (by decide +kernel) (by simp [Tryz.ntmps100]) (veil fun E=>?_)
 simp only [go_sem]
 refine ab E [.at [100] 0] (RO s) [100,101] (hc0) rfl rfl ⟨by simp only [go_sem],by first | (rw [aa];decide) | (simp only [go_sem]<;>(try rw [aa])<;>decide)⟩ rfl (by unfold RO TO ae;simp only [go_sem]) (by unfold RO TO;simp only [go_sem]) ?_
 rintro _ _ ⟨rfl,rfl⟩
 unfold RO TO ae
 simp only [go_sem]
 refine yk E [12] (some 2) [.agg [.str [60],i64 5],.agg [.str [61,61],i64 6]] rfl ?_
 rw [pn]
 simp only [go_sem]
 cases ho:opS q iR with
 | none =>
   rw [ho] at h1 hR
   simp only at h1 hR
   subst hR
   unfold ndN at h1
   refine ab E [.at [100] 0,.d (opL iR)] (RO q) [100,101] (h1) rfl rfl ⟨by simp only [go_sem],by first | (rw [aa];decide) | (simp only [go_sem]<;>(try rw [aa])<;>decide)⟩ rfl (by unfold RO TO ae;simp only [go_sem]) (by unfold RO TO;simp only [go_sem]) ?_
   rintro _ _ ⟨rfl,rfl⟩
   unfold RO TO ae
   simp only [go_sem]
   refine ⟨_,_,[100,101],id,⟨rfl,rfl⟩,?_⟩
   simp only [go_sem]
   rfl
 | some n =>
   rw [ho] at h1 hR
   simp only at h1 hR
   unfold ndN at h1
   refine ab E [.at [100] 0,.d (opL iR)] (RO q) [100,101] (h1) rfl rfl ⟨by simp only [go_sem],by first | (rw [aa];decide) | (simp only [go_sem]<;>(try rw [aa])<;>decide)⟩ rfl (by unfold RO TO ae;simp only [go_sem]) (by unfold RO TO;simp only [go_sem]) ?_
   rintro _ _ ⟨rfl,rfl⟩
   unfold RO TO ae
   simp only [go_sem]
   refine ah mixed E fun X=>?_
   simp only [go_sem]
   obtain ⟨b0,q1,hq1⟩:∃ b0 q1,sub q.next=(b0,q1):=⟨_,_,rfl⟩
   have h2:=hc q.next (by have:=(SS.next q).len;omega) ((SS.next q).nest.trans (hg.ss.nest.trans hN))
   have h3:=hsg q.next
   rw [hq1] at h2 h3 hR
   unfold exD at h2
   refine aR X [.at [100] 0] (RO q.next) [100,101] _ _ h2 rfl rfl ⟨by simp only [go_sem],by rw [aa];decide⟩ rfl (by unfold RO TO ae;simp only [go_sem]) (by unfold RO TO;simp only [go_sem]) (by unfold RO TO;simp only [go_sem]) ?_
   unfold RO TO ae
   simp only [go_sem]
   have ht2:=h3.tr
   have hz1:=hg.sz
   have hz2:=h3.sz
   have hn2:=(SS.next q).len
   simp only at ht2 hz1 hz2
   have h4:=iO (G:=G) { nd0 10 q.peek.pos with n:=n } [a,b0] rfl (by simp) (by simp only [aV,List.map_cons,List.map_nil,List.sum_cons,List.sum_nil];omega)
    (fun l h=>by
     rcases List.mem_cons.1 h with rfl | h
     ·exact hg.tr.kids.2
     ·rw [List.mem_singleton.1 h];exact ht2.kids.2)
    (fun l h=>by
     rcases List.mem_cons.1 h with rfl | h
     ·exact hg.wd.mono (by omega)
     ·rw [List.mem_singleton.1 h];exact h3.wd.mono (by omega))
   generalize ax { nd0 10 q.peek.pos with n:=n } [a,b0]=J at h4 hR
   unfold exD at h4
   refine bX X 21 [21] (some 1) [.agg [.sl (some 9) (a.map enD)],.agg [.sl (some 9) (b0.map enD)]] h4 (fun _=>rfl) rfl rfl rfl (by simp) rfl (by simp only [go_sem]) ?_
   simp only [go_sem]
   refine ⟨by decide +kernel,?_⟩
   rw [← hR]
   refine ⟨_,_,[100,101],id,⟨rfl,rfl⟩,?_⟩
   simp only [go_sem]
   rfl
end Go.Proofs.YtejpnabbmgpmaaaGreat

