/-
  The machine: a node is begun with; a thing still to be done goes on. (with the parts that follow it)
-/
import Derived.Test.YtejpnabbmgpmaaaGreatSBI
import Derived.Test.YtejpnabbmgpmaaaGreatSBH
import Derived.Test.YtejpnabbmgpmaaaGreatSBE
import Derived.Test.YtejpnabbmgpmaaaGreatSBG
set_option linter.unusedSimpArgs false
namespace Go.Proofs.YtejpnabbmgpmaaaGreat
open Go.Ab
def frD (f:Nat × ML × List MV):D:=.agg [i64 (f.1:Int),ar f.2.1,aN none (f.2.2.map mvD)]
theorem eG:au none=.nilp:=rfl
theorem tI {fu d:Nat} {s:MS} {R:MR} (h:∀ c t,R=.go c t→t.st=s.st):(b8 fu d s R).2.1.st=s.st:=by
 cases R with
 | go c t =>
   by_cases g:d+c≤fu
   ·rw [a8 g];exact h c t rfl
   ·rw [bn (by omega)]
 | fin c k =>
   by_cases g:d+c≤fu
   ·rw [br g]
   ·rw [aW (by omega)]
def mP (ns:List EN) (fu d:Nat) (n:Nat) (xs:List D) (s:MS):List (Name × Ob) :=
 [([100],.box [.d (.sl (some 9) (ns.map enD)),.d (i64 (fu:Int)),.d (i64 (d:Int)),.vw [102] 0 n,.d (i64 (s.node:Int)),.d (ar s.env),.d (au s.v),.d (i64 0),.d (i64 0),.d (i64 0),.d (.str []),.d .nils,.d (i64 0)]),([102],.arr (some 3) xs)]
set_option maxHeartbeats 2000000 in
theorem wZ {G} {ns:List EN} (h:Run ns) {s:MS} (hs:s.ok ns) {fu d:Nat} (_hd:d≤fu) (_hf:fu≤1000) {xs:List D} (hx:s.st.length≤xs.length) (hxl:s.st.length≤1000000) (hpb:(ndE ns s.node).k≠8∧0<(aq (ndE ns s.node)).length) :
  ∃ t,jH ns s=.go 0 t∧t.st=(s.node,s.env,[])::s.st∧HCall Tryz.prog G 129 [.at [100] 0] (mH ns fu d s.st.length xs s (0,0)) [100,101] (fun r hp'=>r=.d (i64 0) ∧
   hp'=mP ns fu d (s.st.length+1) (xs.take s.st.length++[frD (s.node,s.env,[])]) t):=by
 have ht:=h.t
 have hfew:=ht.few
 have hi:=hs.node
 have hg:=bF hi
 have hln:=oQ ht (ndE ns s.node) (by rw [bj hi];exact List.getElem_mem hi)
 have hkid:∀ k∈ak (ndE ns s.node),∃ a:Nat,k=(a:Int)∧a<s.node:=fun k hk=>du ht hi hk
 have hmem:=(de (ndE ns s.node)).choose_spec.2
 obtain ⟨M,hM⟩:∃ M,M=jH ns s:=⟨_,rfl⟩
 rw [← hM]
 unfold jH at hM
 simp only at hM
 obtain ⟨n0,hn0⟩:∃ n,n=ndE ns s.node:=⟨_,rfl⟩
 rw [← hn0] at hg hln hkid hmem hM hpb
 have cn:=lQ (G:=G) n0 (by omega)
 obtain ⟨k8,hf0⟩:=hpb
 rw [if_neg k8,if_pos hf0] at hM
 obtain ⟨a,ha,hal⟩:=hkid ((aq n0).getD 0 0) (hmem _ (by rw [List.getD_eq_getElem?_getD,List.getElem?_eq_getElem hf0];exact List.getElem_mem hf0))
 have hfg:=bI hf0
 rw [ha] at hfg
 refine ⟨_,hM,rfl,?_⟩
 rw [ha,Int.toNat_natCast]
 unfold frD mP
 obtain ⟨sn,se,sv,st⟩:=s
 unfold mH mB at *
 rw [bW] at *
 dsimp only [List.map_cons,List.map_nil,aN] at *
 rw [eG]
 have cl:=fun (XX:List D) (N:Nat)=>dZ (G:=G) (E0:=.sl (some 9) (ns.map enD)) (fu:=(fu:Int)) (d:=(d:Int)) (n:=N) (xs:=XX) (nd:=(sn:Int)) (en:=ar se) (v:=au sv) (o:=(0,0)) (a:Int) (ar se) (dh se)
 unfold mB at cl
 refine ai Tryz.func129 rfl (by decide +kernel) (by simp [Tryz.ntmps129]) (veil fun E=>?_)
 simp only [go_sem]
 refine ah mixed E fun X=>?_
 simp only [go_sem]
 refine aA X (d:=6) [100] 0 none _ (by simp only [go_sem]) rfl rfl ?_
 simp only [go_sem]
 refine aA X (d:=11) [100] 0 none _ (by simp only [go_sem]) rfl rfl ?_
 simp only [go_sem]
 refine ⟨⟨by omega,by omega⟩,?_⟩
 first | rw [hg] | rw [Int.toNat_natCast,hg]
 simp only [go_sem]
 refine ⟨by decide +kernel,?_⟩
 refine ag E (cn) rfl rfl (by simp) ?_
 rintro _ rfl
 simp only [go_sem]
 refine aj E (fun g=>absurd g k8) (fun _=>?_)<;>simp only [go_sem]
 rw [decide_eq_true (show (0:Int)<((aq n0).length:Int) by omega)]
 simp only [go_sem]
 refine ah mixed E fun X=>?_
 simp only [go_sem]
 refine aA X (d:=35) [100] 0 none _ (by simp only [go_sem]) rfl rfl ?_
 simp only [go_sem]
 refine aA X (d:=39) [100] 0 none _ (by simp only [go_sem]) rfl rfl ?_
 simp only [go_sem]
 refine aA X (d:=43) [100] 0 none _ (by simp only [go_sem]) rfl rfl ?_
 simp only [go_sem]
 refine ⟨by omega,?_⟩
 refine aA X (d:=49) [100] 0 none _ (by simp only [go_sem]) rfl rfl ?_
 simp only [go_sem]
 refine ⟨by decide +kernel,?_⟩
 refine ah mixed E fun X=>?_
 simp only [go_sem]
 refine ⟨by omega,?_⟩
 first | rw [hfg] | rw [Int.toNat_natCast,hfg]
 simp only [go_sem]
 refine aA X (d:=56) [100] 0 none _ (by simp only [go_sem]) rfl rfl ?_
 simp only [go_sem]
 refine qs X (tau [([101],[48])]) _ _ _ _ _ (cl (xs.take st.length++[.agg [i64 (sn:Int),ar se,.nils]]) (st.length+1)) rfl (by simp only [go_sem];try rfl) ⟨by simp only [go_sem],by first | (rw [aa];decide) | (simp only [go_sem]<;>(try rw [aa])<;>decide)⟩ (by simp only [go_sem]) (by simp only [go_sem]) (by simp only [go_sem];try decide) (by simp only [go_sem];try omega) ?_
 simp only [go_sem]
 refine ⟨by decide +kernel,?_⟩
 refine ⟨_,_,[100,101,102],tau [([102],[48])],⟨rfl,rfl⟩,?_⟩
 simp only [go_sem]
set_option maxHeartbeats 2000000 in
theorem Cx {G} {ns:List EN} (h:Run ns) {s:MS} (hs:s.ok ns) {fu d:Nat} (hd:d≤fu) (hf:fu≤1000) {xs:List D} (hx:s.st.length≤xs.length) (hxl:s.st.length≤1000000) (hpb:¬ ((ndE ns s.node).k≠8∧0<(aq (ndE ns s.node)).length)) :
  (b8 fu d s (jH ns s)).2.1.st=s.st∧HCall Tryz.prog G 129 [.at [100] 0] (mH ns fu d s.st.length xs s (0,0)) [100,101] (fun r hp'=>r=.d (i64 (b8 fu d s (jH ns s)).1) ∧
   hp'=mH ns fu (b8 fu d s (jH ns s)).2.2.1 s.st.length xs (b8 fu d s (jH ns s)).2.1 (b8 fu d s (jH ns s)).2.2.2):=by
 have ht:=h.t
 have hfew:=ht.few
 have hi:=hs.node
 have hg:=bF hi
 have hln:=oQ ht (ndE ns s.node) (by rw [bj hi];exact List.getElem_mem hi)
 have hkid:∀ k∈ak (ndE ns s.node),∃ a:Nat,k=(a:Int)∧a<s.node:=fun k hk=>du ht hi hk
 have hmem:=(de (ndE ns s.node)).choose_spec.2
 obtain ⟨M,hM⟩:∃ M,M=jH ns s:=⟨_,rfl⟩
 rw [← hM]
 unfold jH at hM
 simp only at hM
 obtain ⟨n0,hn0⟩:∃ n,n=ndE ns s.node:=⟨_,rfl⟩
 rw [← hn0] at hg hln hkid hmem hM hpb
 have cn:=lQ (G:=G) n0 (by omega)
 by_cases k8:n0.k=8
 ·rw [if_pos k8] at hM
  have hke:=mI (.inr (.inr (.inl k8)))
  obtain ⟨a,ha,hal⟩:=hkid n0.a (by rw [hke];simp)
  obtain ⟨b,hb,_⟩:=hkid n0.b (by rw [hke];simp)
  have cA:Turn G ns 195 [enD n0,ar s.env] s M:=by rw [hM];exact DB n0 s.env ha (by omega) (by omega) (by omega)
  have cA:=cA fu d s.st.length xs hd hf
  refine ⟨tI (fun c t e=>by rw [hM] at e;cases e;rfl),?_⟩
  generalize b8 fu d s M=R at cA ⊢
  obtain ⟨sn,se,sv,st⟩:=s
  unfold mH mB at *
  rw [bW] at *
  dsimp only [List.map_cons,List.map_nil] at *
  refine ai Tryz.func129 rfl (by decide +kernel) (by simp [Tryz.ntmps129]) (veil fun E=>?_)
  simp only [go_sem]
  refine ah mixed E fun X=>?_
  simp only [go_sem]
  refine aA X (d:=6) [100] 0 none _ (by simp only [go_sem]) rfl rfl ?_
  simp only [go_sem]
  refine aA X (d:=11) [100] 0 none _ (by simp only [go_sem]) rfl rfl ?_
  simp only [go_sem]
  refine ⟨⟨by omega,by omega⟩,?_⟩
  first | rw [hg] | rw [Int.toNat_natCast,hg]
  simp only [go_sem]
  refine ⟨by decide +kernel,?_⟩
  refine ag E (cn) rfl rfl (by simp) ?_
  rintro _ rfl
  simp only [go_sem]
  rw [k8] at cA ⊢
  simp only [go_sem]
  refine ah mixed E fun X=>?_
  simp only [go_sem]
  refine aA X (d:=25) [100] 0 none _ (by simp only [go_sem]) rfl rfl ?_
  simp only [go_sem]
  refine aR X _ _ _ _ _ cA rfl rfl ⟨by simp only [go_sem],by first | (rw [aa];decide) | (simp only [go_sem]<;>(try rw [aa])<;>decide)⟩ (by simp only [go_sem]) (by simp only [go_sem]) (by simp only [go_sem]) (by simp only [go_sem];try omega) ?_
  simp only [go_sem]
  refine ⟨by decide +kernel,?_⟩
  refine ⟨_,_,[100,101],id,⟨rfl,rfl⟩,?_⟩
  simp only [go_sem]
 have hf0:¬ 0<(aq n0).length:=fun g=>hpb ⟨k8,g⟩
 have hl0:(aq n0).length=0:=by omega
 rw [if_neg k8,if_neg hf0] at hM
 by_cases k11:n0.k=11
 ·rw [if_pos k11] at hM
  have hM:M=MR.go 0 ⟨s.node,s.env,some (.mk 5 0 [] .nil 0 .nil []),s.st⟩:=hM
  refine ⟨tI (fun c t e=>by rw [hM] at e;cases e;rfl),?_⟩
  obtain ⟨R,hR⟩:∃ R,R=b8 fu d s M:=⟨_,rfl⟩
  rw [← hR]
  rw [hM] at hR
  obtain ⟨sn,se,sv,st⟩:=s
  dsimp only at hi hx hxl
  unfold mH mB
  dsimp only at hR ⊢
  have cg:=fun (u:D) (hu:ptB u=true)=>ig (G:=G) (E0:=.sl (some 9) (ns.map enD)) (fu:=(fu:Int)) (d:=(d:Int)) (n:=st.length) (xs:=xs) (nd:=(sn:Int)) (en:=ar se) (v:=au sv) (o:=(0,0)) u hu
  unfold mB at cg
  rw [bW] at *
  refine ai Tryz.func129 rfl (by decide +kernel) (by simp [Tryz.ntmps129]) (veil fun E=>?_)
  simp only [go_sem]
  refine ah mixed E fun X=>?_
  simp only [go_sem]
  refine aA X (d:=6) [100] 0 none _ (by simp only [go_sem]) rfl rfl ?_
  simp only [go_sem]
  refine aA X (d:=11) [100] 0 none _ (by simp only [go_sem]) rfl rfl ?_
  simp only [go_sem]
  refine ⟨⟨by omega,by omega⟩,?_⟩
  first | rw [hg] | rw [Int.toNat_natCast,hg]
  simp only [go_sem]
  refine ⟨by decide +kernel,?_⟩
  refine ag E (cn) rfl rfl (by simp) ?_
  rintro _ rfl
  simp only [go_sem]
  rw [k11] at cn ⊢
  simp only [go_sem]
  rw [hl0]
  simp only [go_sem]
  refine fm E [66] (.agg [i64 5,i64 0,.str [],.nils,i64 0,.nilp,.str []]) rfl rfl ?_
  simp only [go_sem]
  refine ab E _ _ _ (cg (.ptr (.agg [i64 5,i64 0,.str [],.nils,i64 0,.nilp,.str []])) rfl) rfl rfl ⟨by simp only [go_sem],by first | (rw [aa];decide) | (simp only [go_sem]<;>(try rw [aa])<;>decide)⟩ (by simp only [go_sem]) (by simp only [go_sem]) (by simp only [go_sem]) ?_
  rintro _ _ ⟨rfl,rfl⟩
  refine ⟨by simp only [go_sem];try omega,?_⟩
  simp only [go_sem]
  rw [a8 (by omega)] at hR
  subst hR
  dsimp only [au]
  simp only [lu,j8,cX,ML.ps,List.map_nil,aN,ar]
  refine ⟨_,_,[100,101],id,⟨rfl,rfl⟩,?_⟩
  simp only [go_sem]
 rw [if_neg k11] at hM
 have cA:Turn G ns 197 [enD n0] s M:=by rw [hM];exact CU n0
 have cA:=cA fu d s.st.length xs hd hf
 refine ⟨tI (fun c t e=>by
  rw [hM] at e
  unfold n6 at e
  (repeat' split at e)<;>cases e<;>rfl),?_⟩
 generalize b8 fu d s M=R at cA ⊢
 obtain ⟨sn,se,sv,st⟩:=s
 unfold mH mB at *
 rw [bW] at *
 dsimp only [List.map_cons,List.map_nil] at *
 refine ai Tryz.func129 rfl (by decide +kernel) (by simp [Tryz.ntmps129]) (veil fun E=>?_)
 simp only [go_sem]
 refine ah mixed E fun X=>?_
 simp only [go_sem]
 refine aA X (d:=6) [100] 0 none _ (by simp only [go_sem]) rfl rfl ?_
 simp only [go_sem]
 refine aA X (d:=11) [100] 0 none _ (by simp only [go_sem]) rfl rfl ?_
 simp only [go_sem]
 refine ⟨⟨by omega,by omega⟩,?_⟩
 first | rw [hg] | rw [Int.toNat_natCast,hg]
 simp only [go_sem]
 refine ⟨by decide +kernel,?_⟩
 refine ag E (cn) rfl rfl (by simp) ?_
 rintro _ rfl
 simp only [go_sem]
 refine aj E (fun g=>absurd g k8) (fun _=>?_)<;>simp only [go_sem]
 rw [hl0]
 simp only [go_sem]
 refine aj E (fun g=>absurd g k11) (fun _=>?_)<;>simp only [go_sem]
 refine ab E _ _ _ cA rfl rfl ⟨by simp only [go_sem],by first | (rw [aa];decide) | (simp only [go_sem]<;>(try rw [aa])<;>decide)⟩ (by simp only [go_sem]) (by simp only [go_sem]) (by simp only [go_sem]) ?_
 rintro _ _ ⟨rfl,rfl⟩
 refine ⟨by simp only [go_sem];try omega,?_⟩
 simp only [go_sem]
 refine ⟨_,_,[100,101],id,⟨rfl,rfl⟩,?_⟩
 simp only [go_sem]
end Go.Proofs.YtejpnabbmgpmaaaGreat

namespace Go.Proofs.YtejpnabbmgpmaaaGreat
open Go.Ab
theorem uP {G} (h:List MV):HP Tryz.prog G 198 [aN none (h.map mvD)] (fun r=>r=.d (.slx none (h.map mvD))):=(BX (h.map mvD)).wk ⟨DV _ _,trivial⟩
set_option maxHeartbeats 2000000 in
theorem wF {G} {ns:List EN} (h:Run ns) {s:MS} (hs:s.ok ns) {f:Nat × ML × List MV} {r:List (Nat × ML × List MV)} {v0:MV} (hv:s.v=some v0) (hst:s.st=f::r) {fu d:Nat} {xs:List D} (_hx:r.length+1≤xs.length) (hxl:r.length≤1000000)
  (hxf:xs.getD r.length .nilp=frD f) (hm:f.2.2.length+1<(aq (ndE ns f.1)).length) :
  HCall Tryz.prog G 130 [.at [100] 0] (mH ns fu d (r.length+1) xs s (0,0)) [100,101] (fun q hp'=>q=.d (i64 0) ∧
   hp'=mH ns fu d (r.length+1) (xs.set r.length (frD (f.1,f.2.1,f.2.2++[v0]))) ⟨((aq (ndE ns f.1)).getD (f.2.2.length+1) 0).toNat,f.2.1,none,(f.1,f.2.1,f.2.2++[v0])::r⟩ (0,0)):=by
 have ht:=h.t
 have hfew:=ht.few
 have hfo:=hs.st f (by rw [hst];exact List.mem_cons_self)
 have hi:=hfo.node
 have hg:=bF hi
 have hln:=oQ ht (ndE ns f.1) (by rw [bj hi];exact List.getElem_mem hi)
 have hmem:=(de (ndE ns f.1)).choose_spec.2
 obtain ⟨a,ha,hal⟩:=du ht hi (hmem ((aq (ndE ns f.1)).getD (f.2.2.length+1) 0) (by rw [List.getD_eq_getElem?_getD,List.getElem?_eq_getElem hm];exact List.getElem_mem hm))
 have hfg:=bI hm
 rw [ha] at hfg
 rw [ha,Int.toNat_natCast]
 obtain ⟨n0,hn0⟩:∃ n,n=ndE ns f.1:=⟨_,rfl⟩
 rw [← hn0] at hg hln hm hfg
 have hfl:(aq n0).length≤900003:=by
  have h1:=(jd (n:=n0)).1
  have h2:=ct n0.k
  rw [bx] at h1
  unfold bD at h1
  split at h1<;>omega
 have hfw:f.2.2.length<(aq n0).length:=by rw [hn0];exact hfo.few
 have cn:=lQ (G:=G) n0 (by omega)
 have cc:=uP (G:=G) f.2.2
 obtain ⟨fi,fe,fh⟩:=f
 obtain ⟨sn,se,sv,st⟩:=s
 obtain rfl:sv=some v0:=hv
 dsimp only at *
 unfold frD at *
 dsimp only at *
 unfold mH mB
 rw [bW] at *
 dsimp only [au]
 obtain ⟨L,hL⟩:∃ L,L=fh.map mvD++[mvD v0]:=⟨_,rfl⟩
 have hml:L.length=fh.length+1:=by rw [hL];simp
 rw [show aN none ((fh++[v0]).map mvD)=.sl none L by rw [iJ (by simp),List.map_append,hL];rfl]
 refine ai Tryz.func130 rfl (by decide +kernel) (by simp [Tryz.ntmps130]) (veil fun E=>?_)
 simp only [go_sem]
 rw [show w64 (((r.length+1:Nat):Int)-1)=((r.length:Nat):Int) by rw [ao ⟨by omega,by omega⟩];omega]
 refine ⟨⟨by omega,by omega⟩,?_⟩
 simp only [go_sem,hxf]
 refine ah mixed E fun X=>?_
 simp only [go_sem]
 refine aA X (d:=21) [100] 0 none _ (by simp only [go_sem]) rfl rfl ?_
 simp only [go_sem]
 refine ⟨⟨by omega,by omega⟩,?_⟩
 first | rw [hg] | rw [Int.toNat_natCast,hg]
 simp only [go_sem]
 refine ⟨by decide +kernel,?_⟩
 refine ah mixed E fun X=>?_
 simp only [go_sem]
 refine bH X cc rfl rfl (by simp) ?_
 simp only [go_sem]
 refine aA X (d:=33) [100] 0 none _ (by simp only [go_sem]) rfl rfl ?_
 simp only [go_sem]
 refine yU X (t:=226) (e:=124) (xs:=fh.map mvD) [36] [mvD v0] 1 (by rw [uH]) (by rw [bO];rfl) (by rw [bO];rfl) ⟨by simp only [go_sem],by rw [aa];decide⟩ (by rw [bO];rfl) rfl (by rw [bO];rfl) (by simp) (by rw [bO,List.length_map];simp [TI.by1];omega) ?_
 simp only [go_sem]
 refine ⟨by decide +kernel,?_⟩
 rw [← hL]
 refine jX E [37] none L rfl (by simp only [go_sem];rfl) ?_
 simp only [go_sem]
 rw [List.take_of_length_le (show L.length≤fh.length+1 by omega)]
 refine ag E (cn) rfl rfl (by simp) ?_
 rintro _ rfl
 simp only [go_sem]
 rw [decide_eq_true (show (L.length:Int)<((aq n0).length:Int) by omega)]
 simp only [go_sem]
 have cl:=dZ (G:=G) (E0:=.sl (some 9) (ns.map enD)) (fu:=(fu:Int)) (d:=(d:Int)) (n:=r.length+1) (xs:=xs.set r.length (.agg [i64 (fi:Int),ar fe,.sl none L])) (nd:=(sn:Int)) (en:=ar se) (v:=mvD v0) (o:=(0,0)) (a:Int) (ar fe) (dh fe)
 unfold mB at cl
 refine ah mixed E fun X=>?_
 simp only [go_sem]
 refine aA X (d:=48) [100] 0 none _ (by simp only [go_sem]) rfl rfl ?_
 simp only [go_sem]
 refine ⟨⟨by omega,by omega⟩,?_⟩
 refine ⟨by decide +kernel,?_⟩
 refine ah mixed E fun X=>?_
 simp only [go_sem]
 rw [hml]
 refine ⟨⟨by omega,by omega⟩,?_⟩
 first | rw [hfg] | rw [Int.toNat_natCast,hfg]
 simp only [go_sem]
 refine aR X _ _ _ _ _ cl rfl rfl ⟨by simp only [go_sem],by first | (rw [aa];decide) | (simp only [go_sem]<;>(try rw [aa])<;>decide)⟩ (by simp only [go_sem]) (by simp only [go_sem]) (by simp only [go_sem]) (by simp only [go_sem];try omega) ?_
 simp only [go_sem]
 refine ⟨by decide +kernel,?_⟩
 refine ⟨_,_,[100,101],id,⟨rfl,rfl⟩,?_⟩
 simp only [go_sem]
set_option maxHeartbeats 2000000 in
theorem jQ {G} {ns:List EN} (h:Run ns) {s:MS} (hs:s.ok ns) {f:Nat × ML × List MV} {r:List (Nat × ML × List MV)} {v0:MV} (hv:s.v=some v0) (hst:s.st=f::r) {fu d:Nat} (hd:d≤fu) (hf:fu≤1000) {xs:List D} (_hx:r.length+1≤xs.length) (hxl:r.length≤1000000)
  (hxf:xs.getD r.length .nilp=frD f) (hm:¬ f.2.2.length+1<(aq (ndE ns f.1)).length) {F:Int × MS × Nat × (Int × Int)} (hF:F=b8 fu d ⟨s.node,s.env,some v0,r⟩ (mc ns (ndE ns f.1) f.2.1 (f.2.2++[v0]) ⟨s.node,s.env,some v0,r⟩)) :
  HCall Tryz.prog G 130 [.at [100] 0] (mH ns fu d (r.length+1) xs s (0,0)) [100,101] (fun q hp'=>q=.d (i64 F.1)∧hp'=mH ns fu F.2.2.1 r.length xs F.2.1 F.2.2.2):=by
 have ht:=h.t
 have hfew:=ht.few
 have hfo:=hs.st f (by rw [hst];exact List.mem_cons_self)
 have hi:=hfo.node
 have hg:=bF hi
 have hln:=oQ ht (ndE ns f.1) (by rw [bj hi];exact List.getElem_mem hi)
 have hfw:=hfo.few
 have cA:=BW (G:=G) h hi f.2.1 (f.2.2++[v0]) (fun u hu=>by
  rcases List.mem_append.1 hu with hu | hu
  ·exact hfo.vs u hu
  ·rw [List.mem_singleton.1 hu];exact hs.v v0 hv) (by rw [List.length_append];simp only [List.length_singleton];omega) (by simp) (s:=⟨s.node,s.env,some v0,r⟩) fu d r.length xs hd hf
 rw [← hF] at cA
 clear hF
 obtain ⟨n0,hn0⟩:∃ n,n=ndE ns f.1:=⟨_,rfl⟩
 rw [← hn0] at hg hln hm hfw cA
 have hfl:(aq n0).length≤900003:=by
  have h1:=(jd (n:=n0)).1
  have h2:=ct n0.k
  rw [bx] at h1
  unfold bD at h1
  split at h1<;>omega
 have cn:=lQ (G:=G) n0 (by omega)
 have cc:=uP (G:=G) f.2.2
 obtain ⟨fi,fe,fh⟩:=f
 obtain ⟨sn,se,sv,st⟩:=s
 obtain rfl:sv=some v0:=hv
 dsimp only at *
 unfold frD at *
 dsimp only at *
 obtain ⟨L,hL⟩:∃ L,L=fh.map mvD++[mvD v0]:=⟨_,rfl⟩
 have hml:L.length=fh.length+1:=by rw [hL];simp
 rw [show aN none ((fh++[v0]).map mvD)=.sl none L by rw [iJ (by simp),List.map_append,hL];rfl] at cA
 unfold mH mB at *
 rw [bW] at *
 dsimp only [au,List.map_cons,List.map_nil] at *
 refine ai Tryz.func130 rfl (by decide +kernel) (by simp [Tryz.ntmps130]) (veil fun E=>?_)
 simp only [go_sem]
 rw [show w64 (((r.length+1:Nat):Int)-1)=((r.length:Nat):Int) by rw [ao ⟨by omega,by omega⟩];omega]
 refine ⟨⟨by omega,by omega⟩,?_⟩
 simp only [go_sem,hxf]
 refine ah mixed E fun X=>?_
 simp only [go_sem]
 refine aA X (d:=21) [100] 0 none _ (by simp only [go_sem]) rfl rfl ?_
 simp only [go_sem]
 refine ⟨⟨by omega,by omega⟩,?_⟩
 first | rw [hg] | rw [Int.toNat_natCast,hg]
 simp only [go_sem]
 refine ⟨by decide +kernel,?_⟩
 refine ah mixed E fun X=>?_
 simp only [go_sem]
 refine bH X cc rfl rfl (by simp) ?_
 simp only [go_sem]
 refine aA X (d:=33) [100] 0 none _ (by simp only [go_sem]) rfl rfl ?_
 simp only [go_sem]
 refine yU X (t:=226) (e:=124) (xs:=fh.map mvD) [36] [mvD v0] 1 (by rw [uH]) (by rw [bO];rfl) (by rw [bO];rfl) ⟨by simp only [go_sem],by rw [aa];decide⟩ (by rw [bO];rfl) rfl (by rw [bO];rfl) (by simp) (by rw [bO,List.length_map];simp [TI.by1];omega) ?_
 simp only [go_sem]
 refine ⟨by decide +kernel,?_⟩
 rw [← hL]
 refine jX E [37] none L rfl (by simp only [go_sem];rfl) ?_
 simp only [go_sem]
 rw [List.take_of_length_le (show L.length≤fh.length+1 by omega)]
 refine ag E (cn) rfl rfl (by simp) ?_
 rintro _ rfl
 simp only [go_sem]
 rw [decide_eq_false (show ¬ (L.length:Int)<((aq n0).length:Int) by omega)]
 simp only [go_sem]
 refine ⟨⟨by omega,by omega⟩,?_⟩
 rw [Nat.sub_zero]
 refine ab E _ _ _ cA rfl rfl ⟨by simp only [go_sem],by first | (rw [aa];decide) | (simp only [go_sem]<;>(try rw [aa])<;>decide)⟩ (by simp only [go_sem]) (by simp only [go_sem]) (by simp only [go_sem]) ?_
 rintro _ _ ⟨rfl,rfl⟩
 refine ⟨by simp only [go_sem];try omega,?_⟩
 simp only [go_sem]
 refine ⟨_,_,[100,101],id,⟨rfl,rfl⟩,?_⟩
 simp only [go_sem]
end Go.Proofs.YtejpnabbmgpmaaaGreat

namespace Go.Proofs.YtejpnabbmgpmaaaGreat
open Go.Ab
theorem or_nil (w:W):aN w []=.nils:=rfl
mutual
def jI:MV→Int→Int
 | .mk _ _ _ l _ _ _,x=>qg l (x-1)
def qg:ML→Int→Int
 | .nil,x=>x
 | .cons _ v r,x=>if x<0 then x else qg r (jI v x)
end
def sN:List (List UInt8 × MV)→Int→Int
 | [],x=>x
 | q::r,x=>if x<0 then x else sN r (jI q.2 x)
theorem zf:∀ (l:ML) (x:Int),qg l x=sN l.ps x
 | .nil,x=>by rw [qg];rfl
 | .cons y v r,x=>by
   rw [qg,ML.ps,sN]
   split
   ·rfl
   ·exact zf r _
mutual
theorem uC:∀ (v:MV) (x:Int),0≤x→-1≤jI v x∧jI v x≤x
 | .mk k n s l f e q,x,h=>by
   rw [jI]
   have:=q4 l (x-1) (by omega)
   omega
theorem q4:∀ (l:ML) (x:Int),-1≤x→-1≤qg l x∧qg l x≤x
 | .nil,x,h=>by rw [qg];omega
 | .cons y v r,x,h=>by
   rw [qg]
   split
   ·omega
   ·have h1:=uC v x (by omega)
    have h2:=q4 r (jI v x) h1.1
    omega
end
mutual
theorem uF {G} {ns:List EN}:∀ (v:MV) (x:Int),v.ok ns→0≤x∧x≤1000→HP Tryz.prog G 200 [mvD v,i64 x] (fun r=>r=.d (i64 (jI v x)))
 | .mk k n s l f e q,x,hv,hx=>by
   have hll:=hv.ll
   have hlk:=hv.lok
   have hps:=nj l
   have ih:=qW (G:=G) l hlk
   rw [cX,jI,zf]
   change l.len≤_ at hll
   by_cases h0:l.ps=[]
   ·rw [h0,List.map_nil,or_nil]
    refine al Tryz.func200 rfl (by decide +kernel) (by simp [Tryz.ntmps200]) (veil fun E=>?_)
    simp only [go_sem]
    rw [ao (n:=x-1) ⟨by omega,by omega⟩]
    refine bl E (by simp only [go_sem]) rfl ?_
    simp only [go_sem]
    refine aG E (X:=Unit) (fun _=>[(1,.d (i64 (x-1))),(4,.d (i64 0)),(12,.d .nils),(13,.d (i64 0)),(14,.d (i64 0))]) (fun _=>[]) [] (fun _=>0) () id ?_ ?_
    ·simp only [go_sem]
     all_goals ((repeat' apply And.intro)<;>first | rfl | trivial)
    rintro _ E0
    refine aZ E0 fun Q' hQ E'=>?_
    simp only [go_sem]
    rw [hQ]
    simp only [go_sem]
    rfl
   ·rw [iJ (fun g=>h0 (List.map_eq_nil_iff.1 g))]
    generalize hR:sN l.ps (x-1)=R
    generalize l.ps=P at *
    generalize ar e=en
    refine al Tryz.func200 rfl (by decide +kernel) (by simp [Tryz.ntmps200]) (veil fun E=>?_)
    simp only [go_sem]
    rw [ao (n:=x-1) ⟨by omega,by omega⟩]
    refine bl E (by simp only [go_sem]) rfl ?_
    simp only [go_sem]
    refine aG E (X:={ y:Nat × Int // y.1≤P.length∧(-1≤y.2∧y.2≤1000)∧sN (P.drop y.1) y.2=R }) (fun y=>[(1,.d (i64 y.1.2)),(4,.d (i64 0)),(12,.d (.sl (some 2) (P.map pD))),(13,.d (i64 P.length)),(14,.d (i64 y.1.1))]) (fun _=>[]) [] (fun y=>P.length-y.1.1) ⟨(0,x-1),Nat.zero_le _,by simp only;omega,by simpa using hR⟩ id ?_ ?_
    ·simp only [go_sem]
     all_goals ((repeat' apply And.intro)<;>first | rfl | trivial)
    rintro ⟨⟨i,z⟩,hi,hz,hRe⟩ E0
    refine aZ E0 fun Q' hQ E'=>?_
    simp only at hi hz hRe ⊢
    simp only [go_sem]
    refine aj E' (fun g1=>?_) (fun g1=>?_)<;>simp only [go_sem]
    ·have hi':i<P.length:=by omega
     have hpg:=qq hi'
     refine ⟨⟨by omega,by omega⟩,?_⟩
     rw [hpg]
     simp only [go_sem]
     rw [List.drop_eq_getElem_cons hi',sN] at hRe
     have c:=ih P[i] (List.getElem_mem hi') z
     have hg:=uC P[i].2 z
     generalize P[i]=w at *
     refine aj E' (fun g2=>?_) (fun g2=>?_)<;>simp only [go_sem]
     ·rw [if_pos g2] at hRe
      rw [hQ]
      simp only [go_sem]
      rw [hRe]
     ·rw [if_neg g2] at hRe
      have c:=c ⟨by omega,by omega⟩
      have hg:=hg (by omega)
      refine ag E' (c) rfl rfl (by simp) ?_
      rintro _ rfl
      simp only [go_sem]
      rw [ao (n:=(i:Int)+1) ⟨by omega,by omega⟩,hQ]
      simp only [go_sem]
      refine ⟨⟨(i+1,jI w.2 z),by omega,by simp only;omega,hRe⟩,by show P.length-(i+1)<_;omega,id,?_⟩
      simp only [go_sem]
      all_goals ((repeat' apply And.intro)<;>first | rfl | trivial)
    ·have h3:i=P.length:=by omega
     subst h3
     rw [List.drop_length,sN] at hRe
     rw [hQ]
     simp only [go_sem]
     rw [hRe]
theorem qW {G} {ns:List EN}:∀ (l:ML),l.ok ns→∀ q∈l.ps,∀ x:Int,0≤x∧x≤1000→HP Tryz.prog G 200 [mvD q.2,i64 x] (fun r=>r=.d (i64 (jI q.2 x)))
 | .nil,_,q,h,_,_=>by cases h
 | .cons y v r,hk,q,h,x,hx=>by
   rw [ML.ok] at hk
   rw [ML.ps] at h
   rcases List.mem_cons.1 h with h | h
   ·rw [h]
    exact uF v x hk.1 hx
   ·exact qW r hk.2 q h x hx
end
end Go.Proofs.YtejpnabbmgpmaaaGreat

namespace Go.Proofs.YtejpnabbmgpmaaaGreat
open Go.Ab
mutual
def e6:MV→List D
 | .mk k n s l _ _ _=>[i64 k,i64 n,.str s,aN (some 5) (kH l)]
def kH:ML→List D
 | .nil=>[]
 | .cons x v r=>.agg (.str x::e6 v)::kH r
end
theorem dY (v:MV):e6 v=[i64 v.k,i64 v.n,.str v.s,aN (some 5) (kH v.l)]:=by
 cases v
 rw [e6]
 rfl
def tlD (q:List UInt8 × MV):D:=.agg [.str q.1,i64 q.2.k,i64 q.2.n,.str q.2.s,aN (some 5) (kH q.2.l)]
theorem pQ:∀ l:ML,kH l=l.ps.map tlD
 | .nil=>by rw [kH];rfl
 | .cons x v r=>by rw [kH,pQ r,dY];rfl
mutual
theorem vr {G} {ns:List EN}:∀ v:MV,v.ok ns→HP Tryz.prog G 201 [mvD v] (fun r=>r=.d (.agg (e6 v)))
 | .mk k n s l f e q,hv=>by
   have hll:=hv.ll
   have hlk:=hv.lok
   have hps:=nj l
   have ih:=q7 (G:=G) l hlk
   rw [cX,e6,pQ]
   change l.len≤_ at hll
   by_cases h0:l.ps=[]
   ·rw [h0,List.map_nil,List.map_nil,or_nil,or_nil]
    refine bP Tryz.func201 rfl (by decide +kernel) (by simp [Tryz.ntmps201]) (veil fun E=>?_)
    simp only [go_sem]
    refine ah mixed E fun X=>?_
    simp only [go_sem]
    refine cC X (by simp only [go_sem]) rfl ?_
    simp only [go_sem]
    refine cC X (by simp only [go_sem]) rfl ?_
    simp only [go_sem]
    refine cC X (by simp only [go_sem]) rfl ?_
    simp only [go_sem]
    refine ⟨by decide +kernel,?_⟩
    refine bl E (by simp only [go_sem]) rfl ?_
    simp only [go_sem]
    refine aG E (X:=Unit) (fun _=>[(2,.at [2] 0),(3,.at [3] 0),(22,.d .nils),(23,.d (i64 0)),(24,.d (i64 0))]) (fun _=>[([2],.box [.d (i64 0),.d (i64 0),.d (.str []),.d .nils]),([3],.box [.d (i64 k),.d (i64 n),.d (.str s),.d .nils])]) [2,3] (fun _=>0) () id ?_ ?_
    ·simp only [go_sem]
     all_goals ((repeat' apply And.intro)<;>first | rfl | trivial)
    rintro _ E0
    refine aZ E0 fun Q' hQ E'=>?_
    simp only [go_sem]
    rw [hQ]
    simp only [go_sem]
    refine ⟨[],?_⟩
    simp only [go_sem]
   ·rw [iJ (fun g=>h0 (List.map_eq_nil_iff.1 g)),iJ (fun g=>h0 (List.map_eq_nil_iff.1 g))]
    have hL:∀ i (h:i<l.ps.length),(l.ps.map tlD).take (i+1)=(l.ps.map tlD).take i++[tlD l.ps[i]]:=fun i h=>by
     rw [List.take_succ_eq_append_getElem (by simpa using h),List.getElem_map]
    have hLl:(l.ps.map tlD).length=l.ps.length:=List.length_map ..
    generalize l.ps.map tlD=L at *
    generalize l.ps=P at *
    generalize ar e=en
    refine bP Tryz.func201 rfl (by decide +kernel) (by simp [Tryz.ntmps201]) (veil fun E=>?_)
    simp only [go_sem]
    refine ah mixed E fun X=>?_
    simp only [go_sem]
    refine cC X (by simp only [go_sem]) rfl ?_
    simp only [go_sem]
    refine cC X (by simp only [go_sem]) rfl ?_
    simp only [go_sem]
    refine cC X (by simp only [go_sem]) rfl ?_
    simp only [go_sem]
    refine ⟨by decide +kernel,?_⟩
    refine bl E (by simp only [go_sem]) rfl ?_
    simp only [go_sem]
    refine lG E [3] 3 98 (some 5) [.d (i64 k),.d (i64 n),.d (.str s),.d .nils] rfl rfl (by rw [aa];decide) ?_
    simp only [go_sem]
    refine aG E (X:={ i:Nat // i≤P.length }) (fun x=>[(2,.at [2] 0),(3,.at [3] 0),(22,.d (.sl (some 2) (P.map pD))),(23,.d (i64 P.length)),(24,.d (i64 x.1))])
     (fun x=>[([2],.box [.d (i64 0),.d (i64 0),.d (.str []),.d .nils]),([3],.box [.d (i64 k),.d (i64 n),.d (.str s),.vw [98] 0 x.1]),([98],.arr (some 5) (L.take x.1))]) [2,3,98] (fun x=>P.length-x.1) ⟨0,Nat.zero_le _⟩ id ?_ ?_
    ·simp only [go_sem]
     all_goals ((repeat' apply And.intro)<;>first | rfl | trivial)
    rintro ⟨i,hi⟩ E0
    refine aZ E0 fun Q' hQ E'=>?_
    simp only at hi ⊢
    simp only [go_sem]
    refine aj E' (fun g1=>?_) (fun g1=>?_)<;>simp only [go_sem]
    ·have hi':i<P.length:=by omega
     have hpg:=qq hi'
     have hL:=hL i hi'
     have c:=ih P[i] (List.getElem_mem hi')
     rw [dY] at c
     unfold tlD at hL
     refine ⟨⟨by omega,by omega⟩,?_⟩
     rw [hpg]
     simp only [go_sem]
     generalize P[i]=w at *
     refine ah mixed E' fun X=>?_
     simp only [go_sem]
     refine bH X c rfl rfl (by simp) ?_
     simp only [go_sem]
     refine ⟨by omega,?_⟩
     refine ⟨by decide +kernel,?_⟩
     rw [List.take_of_length_le (l:=L.take i) (by rw [List.length_take];omega),← hL,ao (n:=(i:Int)+1) ⟨by omega,by omega⟩,hQ]
     simp only [go_sem]
     refine ⟨⟨i+1,by omega⟩,by show P.length-(i+1)<_;omega,tau [([98],[37])],?_⟩
     simp only [go_sem]
     all_goals ((repeat' apply And.intro)<;>first | rfl | trivial)
    ·have h3:i=P.length:=by omega
     subst h3
     rw [hQ]
     simp only [go_sem]
     rw [List.take_of_length_le (by omega)]
     refine ⟨[([98],some 5,L)],?_⟩
     simp only [go_sem]
     rw [List.take_of_length_le (by omega)]
theorem q7 {G} {ns:List EN}:∀ (l:ML),l.ok ns→∀ q∈l.ps,HP Tryz.prog G 201 [mvD q.2] (fun r=>r=.d (.agg (e6 q.2)))
 | .nil,_,q,h=>by cases h
 | .cons y v r,hk,q,h=>by
   rw [ML.ok] at hk
   rw [ML.ps] at h
   rcases List.mem_cons.1 h with h | h
   ·rw [h]
    exact vr v hk.1
   ·exact q7 r hk.2 q h
end
def ny (v:MV):List D:=if 0≤jI v 1000 then e6 v else [i64 0,i64 0,.str [],.nils]
theorem Ct {G} {ns:List EN} {s:MS} {v:MV} (hv:s.v=some v) (hk:v.ok ns) {fu d n:Nat} {xs:List D} :
  HCall Tryz.prog G 131 [.at [100] 0] (mH ns fu d n xs s (0,0)) [100,101] (fun r hp'=>r=.d (.agg (i64 1::(ny v++[i64 (d:Int)])))∧hp'=mH ns fu d n xs s (0,0)):=by
 have c1:=uF (G:=G) v 1000 hk (by omega)
 have c2:=vr (G:=G) v hk
 unfold ny
 rw [dY] at *
 obtain ⟨sn,se,sv,st⟩:=s
 obtain rfl:sv=some v:=hv
 unfold mH mB
 dsimp only [au]
 generalize jI v 1000=z at *
 refine ai Tryz.func131 rfl (by decide +kernel) (by simp [Tryz.ntmps131]) (veil fun E=>?_)
 simp only [go_sem]
 refine ag E (c1) rfl rfl (by simp) ?_
 rintro _ rfl
 simp only [go_sem]
 refine aj E (fun g=>?_) (fun g=>?_)<;>simp only [go_sem]
 ·refine ag E (c2) rfl rfl (by simp) ?_
  rintro _ rfl
  simp only [go_sem]
  rw [if_pos g]
  refine ⟨_,_,[100,101],id,⟨rfl,rfl⟩,?_⟩
  simp only [go_sem]
 ·rw [if_neg g]
  refine ⟨_,_,[100,101],id,⟨rfl,rfl⟩,?_⟩
  simp only [go_sem]
end Go.Proofs.YtejpnabbmgpmaaaGreat

namespace Go.Proofs.YtejpnabbmgpmaaaGreat
open Go.Ab
def FrX:List (Nat × ML × List MV)→List D→Prop
 | [],_=>True
 | f::r,xs=>xs.getD r.length .nilp=frD f∧r.length+1≤xs.length∧FrX r xs
theorem FrX.len:∀ {st:List (Nat × ML × List MV)} {xs:List D},FrX st xs→st.length≤xs.length
 | [],_,_=>Nat.zero_le _
 | _::_,_,h=>h.2.1
theorem FrX.mono:∀ {st:List (Nat × ML × List MV)} {xs ys:List D},FrX st xs→(∀ j,j<st.length→ys.getD j .nilp=xs.getD j .nilp)→st.length≤ys.length→FrX st ys
 | [],_,_,_,_,_=>trivial
 | f::r,xs,ys,h,hg,hl=>⟨(hg r.length (by simp)).trans h.1,hl,h.2.2.mono (fun j hj=>hg j (by simp only [List.length_cons];omega)) (by simp only [List.length_cons] at hl;omega)⟩
theorem FrX.push {st:List (Nat × ML × List MV)} {xs:List D} (h:FrX st xs) (f:Nat × ML × List MV):FrX (f::st) (xs.take st.length++[frD f]):=by
 have hl:=h.len
 refine ⟨?_,?_,h.mono (fun j hj=>?_) ?_⟩
 ·rw [List.getD_eq_getElem?_getD,List.getElem?_append_right (by rw [List.length_take];omega),List.length_take,Nat.min_eq_left hl,Nat.sub_self]
  rfl
 ·rw [List.length_append,List.length_take];simp only [List.length_singleton];omega
 ·rw [List.getD_eq_getElem?_getD,List.getElem?_append_left (by rw [List.length_take];omega),List.getElem?_take_of_lt hj,List.getD_eq_getElem?_getD]
 ·rw [List.length_append,List.length_take];omega
theorem FrX.set {f g:Nat × ML × List MV} {r:List (Nat × ML × List MV)} {xs:List D} (h:FrX (f::r) xs):FrX (g::r) (xs.set r.length (frD g)):=by
 obtain ⟨h1,h2,h3⟩:=h
 refine ⟨?_,by rw [List.length_set];exact h2,h3.mono (fun j hj=>?_) (by rw [List.length_set];omega)⟩
 ·rw [List.getD_eq_getElem?_getD,List.getElem?_set_self (by omega)]
  rfl
 ·rw [List.getD_eq_getElem?_getD,List.getElem?_set_ne (by omega),List.getD_eq_getElem?_getD]
theorem Fv {ns:List EN} {n:EN} {env:ML} {h:List MV} {s:MS} {c:Nat} {t:MS} (e:mc ns n env h s=.go c t):t.st=s.st:=by
 unfold mc nE at e
 simp only at e
 (repeat' split at e)<;>cases e<;>rfl
def nK (o:Int × Nat × Option MV):List D:=match o.2.2 with
 | some v=>i64 1::(ny v++[i64 (o.2.1:Int)])
 | none=>[i64 o.1,i64 0,i64 0,.str [],.nils,i64 (o.2.1:Int)]
theorem iD {ns:List EN} {f:Nat} {s:MS} {d:Nat} {o:Int × Nat × Option MV} (r:Runs ns f s d o) {c:Nat} {t:MS} (e:trM ns s=.go c t):(d+c≤f→Runs ns f t (d+c) o)∧(f<d+c→o=(3,f,none)):=by
 cases r with
 | out e' h =>
   obtain ⟨rfl,rfl⟩:=ko e e'
   exact ⟨fun g=>by omega,fun _=>rfl⟩
 | outF e' h=>exact (dN e e').elim
 | fin e' h=>exact (dN e e').elim
 | next e' h r =>
   obtain ⟨rfl,rfl⟩:=ko e e'
   exact ⟨fun _=>r,fun g=>by omega⟩
theorem ni {ns:List EN} {f:Nat} {s:MS} {d:Nat} {o:Int × Nat × Option MV} (r:Runs ns f s d o) {c:Nat} {k:Int} (e:trM ns s=.fin c k):(d+c≤f→o=(k,d+c,if k=1 then s.v else none))∧(f<d+c→o=(3,f,none)):=by
 cases r with
 | out e' h=>exact (dN e' e).elim
 | outF e' h =>
   obtain ⟨rfl,rfl⟩:=iA e e'
   exact ⟨fun g=>by omega,fun _=>rfl⟩
 | fin e' h =>
   obtain ⟨rfl,rfl⟩:=iA e e'
   exact ⟨fun _=>rfl,fun g=>by omega⟩
 | next e' h r=>exact (dN e' e).elim
theorem bY (k:Int) (d:Nat):nK (k,d,none)=[i64 k,i64 0,i64 0,.str [],.nils,i64 (d:Int)]:=rfl
theorem tQ (v:MV):∃ a b c e:D,ny v=[a,b,c,e]:=by
 unfold ny
 split
 ·rw [dY];exact ⟨_,_,_,_,rfl⟩
 ·exact ⟨_,_,_,_,rfl⟩
theorem j7 (v:MV) (d:Nat):nK (1,d,some v)=i64 1::(ny v++[i64 (d:Int)]):=rfl
structure Hg (ns:List EN) (fu:Nat) (o:Int × Nat × Option MV) (y:MS × Nat × List D):Prop where
 ok:y.1.ok ns
 le:y.2.1≤fu
 run:Runs ns fu y.1 y.2.1 o
 wt:y.1.st.length+wtM ns y.1≤600*(y.2.1+1)
 fr:FrX y.1.st y.2.2
set_option maxHeartbeats 4000000 in
theorem EM {G} {ns:List EN} (h:Run ns) {fu:Nat} (hf:fu≤1000) {o:Int × Nat × Option MV} (ho:Runs ns fu ⟨ns.length-1,.nil,none,[]⟩ 0 o) :
  HCall Tryz.prog G 79 [.at [100] 0] (mH ns fu 0 0 [] ⟨0,.nil,none,[]⟩ (0,0)) [100,101] (fun r hp'=>r=.d (.agg (nK o))∧hp'=[]):=by
 have ht:=h.t
 have hp:=ht.pos
 have hfew:=ht.few
 have c0:=dZ (G:=G) (E0:=.sl (some 9) (ns.map enD)) (fu:=(fu:Int)) (d:=((0:Nat):Int)) (n:=0) (xs:=[]) (nd:=((0:Nat):Int)) (en:=ar .nil) (v:=.nilp) (o:=(0,0)) ((ns.length:Int)-1) .nilp rfl
 have hs0:(⟨ns.length-1,.nil,none,[]⟩:MS).ok ns:=⟨by show ns.length-1<_;omega,trivial,fun v e=>(by cases e),fun f e=>(by cases e)⟩
 have hw0:wtM ns ⟨ns.length-1,.nil,none,[]⟩≤600:=by
  unfold wtM
  simp only [Option.isNone_none,if_true,List.map_nil,List.sum_nil,Nat.add_zero]
  exact vj h (by omega)
 unfold mH mB at *
 dsimp only [eG] at *
 refine ai Tryz.func79 rfl (by decide +kernel) (by simp [Tryz.ntmps79]) (veil fun E=>?_)
 simp only [go_sem]
 rw [ao (n:=(ns.length:Int)-1) ⟨by omega,by omega⟩]
 refine ab E _ _ _ c0 rfl rfl ⟨by simp only [go_sem],by first | (rw [aa];decide) | (simp only [go_sem]<;>(try rw [aa])<;>decide)⟩ (by simp only [go_sem]) (by simp only [go_sem]) (by simp only [go_sem]) ?_
 rintro _ _ ⟨rfl,rfl⟩
 refine ⟨by simp only [go_sem];try omega,?_⟩
 simp only [go_sem]
 refine aG E (X:={ y:MS × Nat × List D // Hg ns fu o y }) (fun y=>[(0,.at [100] 0),(2,.at [2] 0)])
  (fun y=>[([100],.box [.d (.sl (some 9) (ns.map enD)),.d (i64 (fu:Int)),.d (i64 (y.1.2.1:Int)),.vw [98] 0 y.1.1.st.length,.d (i64 (y.1.1.node:Int)),.d (ar y.1.1.env),.d (au y.1.1.v),.d (i64 0),.d (i64 0),.d (i64 0),.d (.str []),.d .nils,.d (i64 0)]),([98],.arr (some 3) y.1.2.2),([2],.box [.d (i64 0),.d (i64 0),.d (i64 0),.d (.str []),.d .nils,.d (i64 0)])]) [2,100,101,98] (fun y=>msr ns fu y.1.1 y.1.2.1) ⟨(⟨ns.length-1,.nil,none,[]⟩,0,[]),hs0,Nat.zero_le _,ho,by show 0+wtM ns ⟨ns.length-1,.nil,none,[]⟩≤600*(0+1);omega,trivial⟩ (tau [([98],[101])]) ?_ ?_
 ·simp only [go_sem]
  rw [show ((ns.length-1:Nat):Int)=(ns.length:Int)-1 by omega,ar,eG]
 rintro ⟨⟨s,d,xs⟩,hI⟩ E0
 refine aZ E0 fun Q' hQ E'=>?_
 obtain ⟨hs,hd,hr,hw,hfr⟩:=hI
 simp only at hs hd hr hw hfr ⊢
 have hst:s.st.length≤1000000:=by omega
 cases hv:s.v with
 | none =>
   have htr:trM ns s=jH ns s:=by unfold trM;rw [hv]
   by_cases hpb:(ndE ns s.node).k≠8∧0<(aq (ndE ns s.node)).length
   ·obtain ⟨t,hb,htl,cA⟩:=wZ (G:=G) h hs hd hf hfr.len hst hpb
    rw [hb] at htr
    obtain ⟨g1,g2,g3⟩:=mQ h hs (c:=0) (by omega) hw htr
    have hr2:=(iD hr htr).1 (by omega)
    unfold mH mB mP at cA
    rw [hv,eG] at cA
    rw [eG]
    simp only [go_sem]
    refine cN E' (e:=232) true (by rw [bO]) (by simp only [go_sem]) rfl ?_
    simp only [go_sem]
    refine aS E' (tau [([101],[98])]) _ _ _ cA rfl (by simp only [go_sem];try rfl) ⟨by simp only [go_sem],by first | (rw [aa];decide) | (simp only [go_sem]<;>(try rw [aa])<;>decide)⟩ rfl (by simp only [go_sem];try rfl) (by simp only [go_sem]) ?_
    rintro _ _ ⟨rfl,rfl⟩
    refine ⟨by simp only [go_sem];try simp;try omega,?_⟩
    simp only [go_sem]
    rw [hQ]
    simp only [go_sem]
    refine ⟨⟨(t,d,xs.take s.st.length++[frD (s.node,s.env,[])]),⟨g1,hd,hr2,g3,by show FrX t.st _;rw [htl];exact hfr.push _⟩⟩,g2,tau [([98],[22,102])],?_⟩
    simp only [go_sem]
    rw [htl,List.length_cons]
    all_goals ((repeat' apply And.intro)<;>first | rfl | trivial)
   ·obtain ⟨hfst,cA⟩:=Cx (G:=G) h hs hd hf hfr.len hst hpb
    rw [← htr] at hfst cA
    have hk:=fM h hs
    unfold mH mB at cA
    rw [hv,eG] at cA
    rw [eG]
    cases hM:trM ns s with
    | go c t =>
      rw [hM] at hk hfst cA
      by_cases hc:d+c≤fu
      ·rw [a8 hc] at hfst cA
       dsimp only at hfst cA
       obtain ⟨g1,g2,g3⟩:=mQ h hs hc hw hM
       have hr2:=(iD hr hM).1 hc
       simp only [go_sem]
       refine cN E' (e:=232) true (by rw [bO]) (by simp only [go_sem]) rfl ?_
       simp only [go_sem]
       refine aS E' (tau [([101],[98])]) _ _ _ cA rfl (by simp only [go_sem];try rfl) ⟨by simp only [go_sem],by first | (rw [aa];decide) | (simp only [go_sem]<;>(try rw [aa])<;>decide)⟩ rfl (by simp only [go_sem];try rfl) (by simp only [go_sem]) ?_
       rintro _ _ ⟨rfl,rfl⟩
       refine ⟨by simp only [go_sem];try simp;try omega,?_⟩
       simp only [go_sem]
       rw [hQ]
       simp only [go_sem]
       refine ⟨⟨(t,d+c,xs),⟨g1,hc,hr2,g3,by show FrX t.st _;rw [hfst];exact hfr⟩⟩,g2,id,?_⟩
       simp only [go_sem]
       rw [hfst]
       all_goals ((repeat' apply And.intro)<;>first | rfl | trivial)
      ·have hc:fu<d+c:=by omega
       rw [bn hc] at cA
       obtain rfl:=(iD hr hM).2 hc
       simp only [go_sem]
       refine cN E' (e:=232) true (by rw [bO]) (by simp only [go_sem]) rfl ?_
       simp only [go_sem]
       refine aS E' (tau [([101],[98])]) _ _ _ cA rfl (by simp only [go_sem];try rfl) ⟨by simp only [go_sem],by first | (rw [aa];decide) | (simp only [go_sem]<;>(try rw [aa])<;>decide)⟩ rfl (by simp only [go_sem];try rfl) (by simp only [go_sem]) ?_
       rintro _ _ ⟨rfl,rfl⟩
       refine ⟨by simp only [go_sem];try simp;try omega,?_⟩
       simp only [go_sem]
       rw [hQ]
       simp only [go_sem]
       rw [bY]
       refine ⟨_,_,[100,101],id,⟨rfl,rfl⟩,?_⟩
       simp only [go_sem]
    | fin c k =>
      rw [hM] at hk hfst cA
      have hck:(c=0∧k=4)∨(c=1∧k=2):=by
       rcases hk with g | g | ⟨_,_,v,g⟩
       ·exact .inl g
       ·exact .inr g
       ·rw [hv] at g;cases g
      have hr1:=ni hr hM
      simp only [go_sem]
      refine cN E' (e:=232) true (by rw [bO]) (by simp only [go_sem]) rfl ?_
      simp only [go_sem]
      by_cases hc:d+c≤fu
      ·have ho:=hr1.1 hc
       rw [if_neg (by omega)] at ho
       subst ho
       rw [br hc] at cA
       refine aS E' (tau [([101],[98])]) _ _ _ cA rfl (by simp only [go_sem];try rfl) ⟨by simp only [go_sem],by first | (rw [aa];decide) | (simp only [go_sem]<;>(try rw [aa])<;>decide)⟩ rfl (by simp only [go_sem];try rfl) (by simp only [go_sem]) ?_
       rintro _ _ ⟨rfl,rfl⟩
       refine ⟨by simp only [go_sem];try simp;try omega,?_⟩
       simp only [go_sem]
       rw [hQ]
       simp only [go_sem]
       rw [bY]
       refine ⟨_,_,[100,101],id,⟨rfl,rfl⟩,?_⟩
       simp only [go_sem]
      ·have hc:fu<d+c:=by omega
       obtain rfl:=hr1.2 hc
       rw [aW hc] at cA
       refine aS E' (tau [([101],[98])]) _ _ _ cA rfl (by simp only [go_sem];try rfl) ⟨by simp only [go_sem],by first | (rw [aa];decide) | (simp only [go_sem]<;>(try rw [aa])<;>decide)⟩ rfl (by simp only [go_sem];try rfl) (by simp only [go_sem]) ?_
       rintro _ _ ⟨rfl,rfl⟩
       refine ⟨by simp only [go_sem];try simp;try omega,?_⟩
       simp only [go_sem]
       rw [hQ]
       simp only [go_sem]
       rw [bY]
       refine ⟨_,_,[100,101],id,⟨rfl,rfl⟩,?_⟩
       simp only [go_sem]
 | some v =>
   obtain ⟨pv,hpv⟩:∃ p,mvD v=.ptr p:=⟨_,mO v⟩
   cases hst':s.st with
   | nil =>
     have htr:trM ns s=.fin 0 1:=by unfold trM;rw [hv,hst']
     have ho:=(ni hr htr).1 (by omega)
     rw [if_pos rfl,hv,Nat.add_zero] at ho
     subst ho
     have cA:=Ct (G:=G) hv (hs.v v hv) (fu:=fu) (d:=d) (n:=0) (xs:=xs)
     obtain ⟨a,b,c,e,hov⟩:=tQ v
     unfold mH mB at cA
     rw [hv] at cA
     dsimp only [au] at cA ⊢
     rw [hpv] at cA ⊢
     rw [hov] at cA
     simp only [go_sem]
     refine cN E' (e:=232) false (by rw [bO]) (by simp only [go_sem]) rfl ?_
     simp only [go_sem]
     refine aS E' (tau [([101],[98])]) _ _ _ cA rfl (by simp only [go_sem];try rfl) ⟨by simp only [go_sem],by first | (rw [aa];decide) | (simp only [go_sem]<;>(try rw [aa])<;>decide)⟩ rfl (by simp only [go_sem];try rfl) (by simp only [go_sem]) ?_
     rintro _ _ ⟨rfl,rfl⟩
     refine ⟨by simp only [go_sem];try simp;try omega,?_⟩
     simp only [go_sem]
     rw [hQ]
     simp only [go_sem]
     rw [j7,hov]
     refine ⟨_,_,[100,101],id,⟨rfl,rfl⟩,?_⟩
     simp only [go_sem]
   | cons f r =>
     rw [hst'] at hfr hst
     simp only [List.length_cons] at hst
     obtain ⟨f1,f2,f3⟩:=hfr
     by_cases hm:f.2.2.length+1<(aq (ndE ns f.1)).length
     ·have htr:trM ns s=.go 0 ⟨((aq (ndE ns f.1)).getD (f.2.2.length+1) 0).toNat,f.2.1,none,(f.1,f.2.1,f.2.2++[v])::r⟩:=by unfold trM;rw [hv,hst'];exact if_pos hm
      have cA:=wF (G:=G) h hs hv hst' (fu:=fu) (d:=d) f2 (by omega) f1 hm
      obtain ⟨g1,g2,g3⟩:=mQ h hs (c:=0) (by omega) hw htr
      have hr2:=(iD hr htr).1 (by omega)
      have hfx:=FrX.set (g:=(f.1,f.2.1,f.2.2++[v])) ⟨f1,f2,f3⟩
      obtain ⟨t,hT⟩:∃ t,t=(⟨((aq (ndE ns f.1)).getD (f.2.2.length+1) 0).toNat,f.2.1,none,(f.1,f.2.1,f.2.2++[v])::r⟩:MS):=⟨_,rfl⟩
      have htl:t.st=(f.1,f.2.1,f.2.2++[v])::r:=by rw [hT]
      rw [← hT] at cA g1 g2 g3 hr2
      unfold mH mB at cA
      rw [hv] at cA
      dsimp only [au] at cA ⊢
      rw [hpv] at cA ⊢
      obtain ⟨ys,hys⟩:∃ ys,ys=xs.set r.length (frD (f.1,f.2.1,f.2.2++[v])):=⟨_,rfl⟩
      have hyl:ys.length=xs.length:=by rw [hys,List.length_set]
      rw [← hys] at cA hfx
      simp only [go_sem]
      refine cN E' (e:=232) false (by rw [bO]) (by simp only [go_sem]) rfl ?_
      simp only [go_sem]
      rw [decide_eq_true (show (0:Int)<((r.length+1:Nat):Int) by omega)]
      simp only [go_sem]
      refine aS E' (tau [([101],[98])]) _ _ _ cA rfl (by simp only [go_sem];try rfl) ⟨by simp only [go_sem],by first | (rw [aa];decide) | (simp only [go_sem]<;>(try rw [aa])<;>decide)⟩ rfl (by simp only [go_sem];try rfl) (by simp only [go_sem]) ?_
      rintro _ _ ⟨rfl,rfl⟩
      refine ⟨by simp only [go_sem];rw [hyl];simp,?_⟩
      simp only [go_sem]
      rw [hQ]
      simp only [go_sem]
      refine ⟨⟨(t,d,ys),⟨g1,hd,hr2,g3,by show FrX t.st _;rw [htl];exact hfx⟩⟩,g2,id,?_⟩
      simp only [go_sem]
      rw [htl,List.length_cons]
      all_goals ((repeat' apply And.intro)<;>first | rfl | trivial)
     ·obtain ⟨M,hMe⟩:∃ M,M=mc ns (ndE ns f.1) f.2.1 (f.2.2++[v]) ⟨s.node,s.env,some v,r⟩:=⟨_,rfl⟩
      have htr:trM ns s=M:=by rw [hMe];unfold trM;rw [hv,hst'];exact if_neg hm
      have hk:=fM h hs
      have hrst:=fun c t=>Fv (ns:=ns) (n:=ndE ns f.1) (env:=f.2.1) (h:=f.2.2++[v]) (s:=⟨s.node,s.env,some v,r⟩) (c:=c) (t:=t)
      rw [← hMe] at hrst
      cases M with
      | go c t =>
        rw [htr] at hk
        have htl:t.st=r:=hrst c t rfl
        by_cases hc:d+c≤fu
        ·have cA:=jQ (G:=G) h hs hv hst' hd hf f2 (by omega) f1 hm (F:=(0,t,d+c,(0,0))) (by rw [← hMe,a8 hc])
         obtain ⟨g1,g2,g3⟩:=mQ h hs hc hw htr
         have hr2:=(iD hr htr).1 hc
         unfold mH mB at cA
         rw [hv] at cA
         dsimp only [au] at cA ⊢
         rw [hpv] at cA ⊢
         simp only [go_sem]
         refine cN E' (e:=232) false (by rw [bO]) (by simp only [go_sem]) rfl ?_
         simp only [go_sem]
         rw [decide_eq_true (show (0:Int)<((r.length+1:Nat):Int) by omega)]
         simp only [go_sem]
         refine aS E' (tau [([101],[98])]) _ _ _ cA rfl (by simp only [go_sem];try rfl) ⟨by simp only [go_sem],by first | (rw [aa];decide) | (simp only [go_sem]<;>(try rw [aa])<;>decide)⟩ rfl (by simp only [go_sem];try rfl) (by simp only [go_sem]) ?_
         rintro _ _ ⟨rfl,rfl⟩
         refine ⟨by simp only [go_sem];try simp;try omega,?_⟩
         simp only [go_sem]
         rw [hQ]
         simp only [go_sem]
         refine ⟨⟨(t,d+c,xs),⟨g1,hc,hr2,g3,by show FrX t.st _;rw [htl];exact f3⟩⟩,g2,id,?_⟩
         simp only [go_sem]
         rw [htl]
         all_goals ((repeat' apply And.intro)<;>first | rfl | trivial)
        ·have hc:fu<d+c:=by omega
         have cA:=jQ (G:=G) h hs hv hst' hd hf f2 (by omega) f1 hm (F:=(1,⟨s.node,s.env,some v,r⟩,fu,(3,(fu:Int)))) (by rw [← hMe,bn hc])
         obtain rfl:=(iD hr htr).2 hc
         unfold mH mB at cA
         rw [hv] at cA
         dsimp only [au] at cA ⊢
         rw [hpv] at cA ⊢
         simp only [go_sem]
         refine cN E' (e:=232) false (by rw [bO]) (by simp only [go_sem]) rfl ?_
         simp only [go_sem]
         rw [decide_eq_true (show (0:Int)<((r.length+1:Nat):Int) by omega)]
         simp only [go_sem]
         refine aS E' (tau [([101],[98])]) _ _ _ cA rfl (by simp only [go_sem];try rfl) ⟨by simp only [go_sem],by first | (rw [aa];decide) | (simp only [go_sem]<;>(try rw [aa])<;>decide)⟩ rfl (by simp only [go_sem];try rfl) (by simp only [go_sem]) ?_
         rintro _ _ ⟨rfl,rfl⟩
         refine ⟨by simp only [go_sem];try simp;try omega,?_⟩
         simp only [go_sem]
         rw [hQ]
         simp only [go_sem]
         rw [bY]
         refine ⟨_,_,[100,101],id,⟨rfl,rfl⟩,?_⟩
         simp only [go_sem]
      | fin c k =>
        rw [htr] at hk
        have hck:(c=0∧k=4)∨(c=1∧k=2):=by
         have:k≠1:=fun e=>by
          rw [e] at hMe
          unfold mc nE at hMe
          simp only at hMe
          (repeat' split at hMe)<;>cases hMe
         rcases hk with g | g | ⟨_,g,_⟩
         ·exact .inl g
         ·exact .inr g
         ·exact absurd g this
        have hr1:=ni hr htr
        by_cases hc:d+c≤fu
        ·have ho:=hr1.1 hc
         rw [if_neg (by omega)] at ho
         subst ho
         have cA:=jQ (G:=G) h hs hv hst' hd hf f2 (by omega) f1 hm (F:=(1,⟨s.node,s.env,some v,r⟩,d+c,(k,((d+c:Nat):Int)))) (by rw [← hMe,br hc])
         unfold mH mB at cA
         rw [hv] at cA
         dsimp only [au] at cA ⊢
         rw [hpv] at cA ⊢
         simp only [go_sem]
         refine cN E' (e:=232) false (by rw [bO]) (by simp only [go_sem]) rfl ?_
         simp only [go_sem]
         rw [decide_eq_true (show (0:Int)<((r.length+1:Nat):Int) by omega)]
         simp only [go_sem]
         refine aS E' (tau [([101],[98])]) _ _ _ cA rfl (by simp only [go_sem];try rfl) ⟨by simp only [go_sem],by first | (rw [aa];decide) | (simp only [go_sem]<;>(try rw [aa])<;>decide)⟩ rfl (by simp only [go_sem];try rfl) (by simp only [go_sem]) ?_
         rintro _ _ ⟨rfl,rfl⟩
         refine ⟨by simp only [go_sem];try simp;try omega,?_⟩
         simp only [go_sem]
         rw [hQ]
         simp only [go_sem]
         rw [bY]
         refine ⟨_,_,[100,101],id,⟨rfl,rfl⟩,?_⟩
         simp only [go_sem]
        ·have hc:fu<d+c:=by omega
         obtain rfl:=hr1.2 hc
         have cA:=jQ (G:=G) h hs hv hst' hd hf f2 (by omega) f1 hm (F:=(1,⟨s.node,s.env,some v,r⟩,fu,(3,(fu:Int)))) (by rw [← hMe,aW hc])
         unfold mH mB at cA
         rw [hv] at cA
         dsimp only [au] at cA ⊢
         rw [hpv] at cA ⊢
         simp only [go_sem]
         refine cN E' (e:=232) false (by rw [bO]) (by simp only [go_sem]) rfl ?_
         simp only [go_sem]
         rw [decide_eq_true (show (0:Int)<((r.length+1:Nat):Int) by omega)]
         simp only [go_sem]
         refine aS E' (tau [([101],[98])]) _ _ _ cA rfl (by simp only [go_sem];try rfl) ⟨by simp only [go_sem],by first | (rw [aa];decide) | (simp only [go_sem]<;>(try rw [aa])<;>decide)⟩ rfl (by simp only [go_sem];try rfl) (by simp only [go_sem]) ?_
         rintro _ _ ⟨rfl,rfl⟩
         refine ⟨by simp only [go_sem];try simp;try omega,?_⟩
         simp only [go_sem]
         rw [hQ]
         simp only [go_sem]
         rw [bY]
         refine ⟨_,_,[100,101],id,⟨rfl,rfl⟩,?_⟩
         simp only [go_sem]
end Go.Proofs.YtejpnabbmgpmaaaGreat

namespace Go.Proofs.YtejpnabbmgpmaaaGreat
open Go.Ab
theorem Bs (o:Int × Nat × Option MV):∃ a b c d e f:D,nK o=[a,b,c,d,e,f]:=by
 unfold nK
 split
 ·rename_i v _
  obtain ⟨a,b,c,e,h⟩:=tQ v
  rw [h]
  exact ⟨_,_,_,_,_,_,rfl⟩
 ·exact ⟨_,_,_,_,_,_,rfl⟩
def ms0 (ns:List EN):MS:=⟨ns.length-1,.nil,none,[]⟩
theorem pw {G} {ns:List EN} (h:Run ns) {fu:Nat} (hf:fu≤1000) {o:Int × Nat × Option MV} (ho:Runs ns fu (ms0 ns) 0 o):HP Tryz.prog G 39 [exD ns,i64 (fu:Int)] (fun r=>r=.tup [.d (.agg (nK o)),.d (i64 0)]):=by
 have c1:=tB (G:=G) ns (zi h.t) (by have:=h.t.few;omega)
 rw [h.may] at c1
 have c2:=EM (G:=G) h hf ho
 obtain ⟨a,b,c,d,e,f,hod⟩:=Bs o
 rw [hod] at c2 ⊢
 unfold mH mB at c2
 dsimp only [ar,au] at c2
 unfold exD at *
 refine bP Tryz.func39 rfl (by decide +kernel) (by simp [Tryz.ntmps39]) (veil fun E=>?_)
 simp only [go_sem]
 rw [decide_eq_false (show ¬ (fu:Int)<0 by omega)]
 simp only [go_sem]
 refine ag E (c1) rfl rfl (by simp) ?_
 rintro _ rfl
 simp only [go_sem]
 refine p5 E [20] 3 98 (some 3) [.d (.sl (some 9) (ns.map enD)),.d (i64 (fu:Int)),.d (i64 0),.d .nils,.d (i64 0),.d .nilp,.d .nilp,.d (i64 0),.d (i64 0),.d (i64 0),.d (.str []),.d .nils,.d (i64 0)] rfl rfl (by rw [aa];decide) rfl ?_
 simp only [go_sem]
 refine aS E (tau [([100],[20]),([101],[98])]) _ _ _ c2 rfl (by simp only [go_sem];try rfl) ⟨by simp only [go_sem],by first | (rw [aa];decide) | (simp only [go_sem]<;>(try rw [aa])<;>decide)⟩ rfl (by simp only [go_sem];try rfl) (by simp only [go_sem]) ?_
 rintro _ _ ⟨rfl,rfl⟩
 refine ⟨by simp only [go_sem];try simp;try omega,?_⟩
 simp only [go_sem]
 refine ⟨[],?_⟩
 simp only [go_sem]
theorem Cd {G} {ns:List EN} (hm:jc ns≠0) (hs:∀ n∈ns,gL BIG n) (hN:ns.length≤1000000) {fu:Nat}:HP Tryz.prog G 39 [exD ns,i64 (fu:Int)] (fun r=>r=.tup [.d (.agg (nK (0,0,none))),.d (i64 (jc ns))]):=by
 have c1:=tB (G:=G) ns hs hN
 rw [bY]
 unfold exD at *
 generalize jc ns=m at *
 refine bP Tryz.func39 rfl (by decide +kernel) (by simp [Tryz.ntmps39]) (veil fun E=>?_)
 simp only [go_sem]
 rw [decide_eq_false (show ¬ (fu:Int)<0 by omega)]
 simp only [go_sem]
 refine ag E (c1) rfl rfl (by simp) ?_
 rintro _ rfl
 simp only [go_sem]
 rw [decide_eq_true hm]
 simp only [go_sem]
 refine ⟨[],?_⟩
 simp only [go_sem]
mutual
theorem Ax {G} {ns:List EN}:∀ v:MV,v.ok ns→HP Tryz.prog G 80 [.agg (e6 v),.agg (e6 v)] (fun r=>r=.d (.bool true))
 | .mk k n s l f e q,hv=>by
   have hll:=hv.ll
   have hlk:=hv.lok
   have hps:=nj l
   have ih:=va (G:=G) l hlk
   rw [e6,pQ]
   change l.len≤_ at hll
   by_cases h0:l.ps=[]
   ·rw [h0,List.map_nil,or_nil]
    refine al Tryz.func80 rfl (by decide +kernel) (by simp [Tryz.ntmps80]) (veil fun E=>?_)
    simp only [go_sem]
    refine aG E (X:=Unit) (fun _=>[(2,.at [2] 0),(3,.at [3] 0),(4,.d (.bool false)),(5,.d (i64 0))]) (fun _=>[([2],.box [.d (i64 k),.d (i64 n),.d (.str s),.d .nils]),([3],.box [.d (i64 k),.d (i64 n),.d (.str s),.d .nils])]) [2,3] (fun _=>0) () id ?_ ?_
    ·simp only [go_sem]
     all_goals ((repeat' apply And.intro)<;>first | rfl | trivial)
    rintro _ E0
    refine aZ E0 fun Q' hQ E'=>?_
    simp only [go_sem]
    rw [hQ]
    simp only [go_sem]
   ·rw [iJ (fun g=>h0 (List.map_eq_nil_iff.1 g))]
    have hget:∀ {i:Nat} (h:i<l.ps.length),(l.ps.map tlD).getD i .nilp=.agg [.str l.ps[i].1,i64 l.ps[i].2.k,i64 l.ps[i].2.n,.str l.ps[i].2.s,aN (some 5) (kH l.ps[i].2.l)]:=fun {i} h=>by simp [h,tlD]
    have hLl:(l.ps.map tlD).length=l.ps.length:=List.length_map ..
    generalize l.ps.map tlD=L at *
    generalize l.ps=P at *
    refine al Tryz.func80 rfl (by decide +kernel) (by simp [Tryz.ntmps80]) (veil fun E=>?_)
    simp only [go_sem]
    refine aG E (X:={ i:Nat // i≤P.length }) (fun x=>[(2,.at [2] 0),(3,.at [3] 0),(4,.d (.bool false)),(5,.d (i64 x.1))]) (fun _=>[([2],.box [.d (i64 k),.d (i64 n),.d (.str s),.d (.sl (some 5) L)]),([3],.box [.d (i64 k),.d (i64 n),.d (.str s),.d (.sl (some 5) L)])]) [2,3] (fun x=>P.length-x.1) ⟨0,Nat.zero_le _⟩ id ?_ ?_
    ·simp only [go_sem]
     all_goals ((repeat' apply And.intro)<;>first | rfl | trivial)
    rintro ⟨i,hi⟩ E0
    refine aZ E0 fun Q' hQ E'=>?_
    simp only at hi ⊢
    simp only [go_sem]
    refine aj E' (fun g1=>?_) (fun g1=>?_)<;>simp only [go_sem]
    ·have hi':i<P.length:=by omega
     have hg:=hget hi'
     have c:=ih P[i] (List.getElem_mem hi')
     rw [dY] at c
     generalize P[i]=w at *
     refine ah mixed E' fun X=>?_
     simp only [go_sem]
     refine ⟨⟨by omega,by omega⟩,?_⟩
     rw [hg]
     simp only [go_sem]
     refine ⟨⟨by omega,by omega⟩,?_⟩
     rw [hg]
     simp only [go_sem]
     refine ⟨⟨by omega,by omega⟩,?_⟩
     rw [hg]
     simp only [go_sem]
     refine ⟨⟨by omega,by omega⟩,?_⟩
     rw [hg]
     simp only [go_sem]
     refine bH X c rfl rfl (by simp) ?_
     simp only [go_sem]
     refine ⟨by decide +kernel,?_⟩
     rw [ao (n:=(i:Int)+1) ⟨by omega,by omega⟩,hQ]
     simp only [go_sem]
     refine ⟨⟨i+1,by omega⟩,by show P.length-(i+1)<_;omega,id,?_⟩
     simp only [go_sem]
     all_goals ((repeat' apply And.intro)<;>first | rfl | trivial)
    ·have h3:i=P.length:=by omega
     subst h3
     rw [hQ]
     simp only [go_sem]
theorem va {G} {ns:List EN}:∀ (l:ML),l.ok ns→∀ q∈l.ps,HP Tryz.prog G 80 [.agg (e6 q.2),.agg (e6 q.2)] (fun r=>r=.d (.bool true))
 | .nil,_,q,h=>by cases h
 | .cons y v r,hk,q,h=>by
   rw [ML.ok] at hk
   rw [ML.ps] at h
   rcases List.mem_cons.1 h with h | h
   ·rw [h]
    exact Ax v hk.1
   ·exact va r hk.2 q h
end
theorem Fy {G} {ns:List EN} {o:Int × Nat × Option MV} (hk:∀ v,o.2.2=some v→v.ok ns):HP Tryz.prog G 40 [.agg (nK o),.agg (nK o)] (fun r=>r=.d (.bool true)):=by
 obtain ⟨a,w,b,hw,c,hc⟩:∃ (a:Int) (w:MV) (b:Nat),w.ok ns∧nK o=i64 a::(e6 w++[i64 (b:Int)])∧True:=by
  obtain ⟨k,d,v⟩:=o
  cases v with
  | none=>exact ⟨k,iT,d,tz,by rw [bY,dY];rfl,trivial⟩
  | some v =>
    by_cases h:0≤jI v 1000
    ·exact ⟨1,v,d,hk v rfl,by show i64 1::(ny v++[i64 (d:Int)])=_;unfold ny;rw [if_pos h],trivial⟩
    ·exact ⟨1,iT,d,tz,by show i64 1::(ny v++[i64 (d:Int)])=_;unfold ny;rw [if_neg h,dY];rfl,trivial⟩
 have c1:=Ax (G:=G) w hw
 rw [c]
 rw [dY] at *
 refine al Tryz.func40 rfl (by decide +kernel) (by simp [Tryz.ntmps40]) (veil fun E=>?_)
 simp only [go_sem]
 refine ag E (c1) rfl rfl (by simp) ?_
 rintro _ rfl
 simp only [go_sem]
end Go.Proofs.YtejpnabbmgpmaaaGreat

namespace Go.Proofs.YtejpnabbmgpmaaaGreat
open Go.Ab
structure Any (ns:List EN):Prop where
 sane:∀ n∈ns,gL BIG n
 few:ns.length≤1000000
 rng:∀ n∈ns,inR n.n
end Go.Proofs.YtejpnabbmgpmaaaGreat

namespace Go.Proofs.YtejpnabbmgpmaaaGreat
open Go.Ab
theorem v8:∀ {xs:List D} {ns:List EN},RwL xs ns→(∀ x∈xs,okW (some 9) x∧oks [.int .i64,.int .i64,.int .i64,.int .i64,.int .i64,.str,.str,.sl (some 3) [.str,.str,.int .i64],.int .i64] x.cells)→∀ n∈ns,inR n.n
 | [],[],_,_,n,hn=>by cases hn
 | x::xs,m::ns,h,hx,n,hn=>by
   rcases List.mem_cons.1 hn with rfl | hn
   ·obtain ⟨F,rfl,_⟩:=h.1
    have h2:=(hx _ List.mem_cons_self).2
    exact h2.2.2.2.2.1.2
   ·exact v8 h.2 (fun y hy=>hx y (List.mem_cons_of_mem _ hy)) n hn
 | [],_::_,h,_,_,_=>h.elim
 | _::_,[],h,_,_,_=>h.elim
theorem Eu {ds:List D} (h:oks Er ds):∃ ns,Wk (.agg ds) (exD ns)∧ns.length≤maxLen∧(∀ n∈ns,InN n)∧∀ n∈ns,inR n.n:=by
 match ds,h with
 | [L],h =>
   obtain ⟨h1,_⟩:=h
   cases L with
   | nils =>
     refine ⟨[],Wk.agg rfl (by simp [D.scal]) fun i a b ha hb=>?_,by simp,by simp,by simp⟩
     match i,ha,hb with
     | 0,ha,hb=>cases ha;cases hb;exact .nils _
   | sl w xs =>
     obtain ⟨rfl,g1,g2⟩:=h1
     obtain ⟨ns,k1,k2⟩:=z5 g2
     exact ⟨ns,Gv k1,by rw [← k1.len];exact g1,k2,v8 k1 g2⟩
   | _=>exact h1.elim
theorem BI {ns:List EN} (hn:∀ n∈ns,InN n) (hr:∀ n∈ns,inR n.n):Any (sC ns):=by
 have hin:=EI hn
 refine ⟨fun n h=>(hin.2 n h).1,by have:=hin.1;omega,fun n h=>?_⟩
 unfold sC at h
 obtain ⟨m,hm,rfl⟩:=List.mem_map.1 h
 exact hr m (List.mem_of_mem_take hm)
end Go.Proofs.YtejpnabbmgpmaaaGreat

namespace Go.Proofs.YtejpnabbmgpmaaaGreat
open Go.Ab
def FO (s:PS) (l:List EF):List (Name × Ob):=([103],.arr (some 3) (l.map fD))::RO s
theorem uY {G} (s:PS) (t:Tok) (n:EN) (l:List EF) (hl:l.length≤100000):HCall Tryz.prog G 355 [.at [100] 0,.d (.agg [i64 t.k,.str t.s,i64 t.n,i64 t.pos]),.agg [.d (i64 n.k),.d (i64 n.a),.d (i64 n.b),.d (i64 n.c),.d (i64 n.n),.d (.str n.name),.d (.str n.s),.vw [103] 0 l.length,.d (i64 n.pos)]] (FO s l) [100,101,103] (fun r hp'=>r=.tup []∧hp'=FO (s.parted t l) l):=by
 generalize hR:s.parted t l=R
 unfold PS.parted at hR
 have c8:=mw (G:=G) s 8 t.pos
 have c5:=mw (G:=G) s 5 t.pos
 unfold FO RO TO ae
 refine ai Tryz.func355 rfl (by decide +kernel) (by simp [Tryz.ntmps355]) (veil fun E=>?_)
 simp only [go_sem]
 refine ab E [.at [100] 0] (RO s) [100,101] (eC s) rfl rfl ⟨by simp only [go_sem],by first | (rw [aa];decide) | (simp only [go_sem]<;>(try rw [aa])<;>decide)⟩ rfl (by unfold RO TO ae;simp only [go_sem]) (by unfold RO TO;simp only [go_sem]) ?_
 rintro _ _ ⟨rfl,rfl⟩
 unfold RO TO ae
 simp only [go_sem]
 refine aI E (fun h1=>?_) (fun h1=>?_)<;>simp only [go_sem]
 ·rw [if_pos (by simpa using h1)] at hR
  rw [← hR]
  refine ⟨_,_,[100,101,103],id,⟨rfl,rfl⟩,?_⟩
  simp only [go_sem]
 rw [if_neg (by simpa using h1)] at hR
 refine aj E (fun h2=>?_) (fun h2=>?_)<;>simp only [go_sem]
 ·rw [if_pos (by omega)] at hR
  refine ab E [.at [100] 0,.d (i64 8),.d (i64 t.pos)] (RO s) [100,101] (c8) rfl rfl ⟨by simp only [go_sem],by first | (rw [aa];decide) | (simp only [go_sem]<;>(try rw [aa])<;>decide)⟩ rfl (by unfold RO TO ae;simp only [go_sem]) (by unfold RO TO;simp only [go_sem]) ?_
  rintro _ _ ⟨rfl,rfl⟩
  unfold RO TO ae
  simp only [go_sem]
  rw [← hR]
  refine ⟨_,_,[100,101,103],id,⟨rfl,rfl⟩,?_⟩
  simp only [go_sem]
 ·rw [if_neg (by omega)] at hR
  refine fm E [4] (.agg [i64 t.k,.str t.s,i64 t.n,i64 t.pos]) rfl rfl ?_
  simp only [go_sem]
  refine p4 E [([103],some 3,l.map fD)] (DC l (fun x=>decide (x.nm=t.s)) 371 [.ptr (.agg [i64 t.k,.str t.s,i64 t.n,i64 t.pos])] (by omega) (fun x _=>Cv x t)) (by rintro _ rfl;rfl) (by simp only [go_sem]) rfl (by simp only [go_sem]) (by simp) ?_
  rintro _ rfl
  simp only [go_sem]
  refine aI E (fun h3=>?_) (fun h3=>?_)<;>simp only [go_sem]
  ·rw [if_pos h3] at hR
   refine ab E [.at [100] 0,.d (i64 5),.d (i64 t.pos)] (RO s) [100,101] (c5) rfl rfl ⟨by simp only [go_sem],by first | (rw [aa];decide) | (simp only [go_sem]<;>(try rw [aa])<;>decide)⟩ rfl (by unfold RO TO ae;simp only [go_sem]) (by unfold RO TO;simp only [go_sem]) ?_
   rintro _ _ ⟨rfl,rfl⟩
   unfold RO TO ae
   simp only [go_sem]
   rw [← hR]
   refine ⟨_,_,[100,101,103],id,⟨rfl,rfl⟩,?_⟩
   simp only [go_sem]
  ·rw [if_neg (by rw [h3];decide)] at hR
   rw [← hR]
   refine ⟨_,_,[100,101,103],id,⟨rfl,rfl⟩,?_⟩
   simp only [go_sem]
end Go.Proofs.YtejpnabbmgpmaaaGreat

namespace Go.Proofs.YtejpnabbmgpmaaaGreat
open Go.Ab
def NO (s:PS) (n:EN) (l:List EF):List (Name × Ob):=([105],.box [.at [100] 0])::([102],.box [.d (i64 n.k),.d (i64 n.a),.d (i64 n.b),.d (i64 n.c),.d (i64 n.n),.d (.str n.name),.d (.str n.s),.vw [103] 0 l.length,.d (i64 n.pos)])::FO s l
def pT (s:PS) (t:Tok) (l:List EF):EF × PS:=(⟨(s.of 2).1,[],0⟩,(((s.of 2).2.parted t l).must 7 [61]))
def lZ (s:PS) (t:Tok) (l:List EF):EF × PS:=(⟨(s.of 3).1,(((s.of 3).2.parted t l).of 2).1,0⟩,(((s.of 3).2.parted t l).of 2).2.must 7 bTo)
theorem ri (s:PS) (t:Tok) (l:List EF):(s.parted t l).l=s.l:=by
 unfold PS.parted
 split
 ·rfl
 split
 ·exact nw _ _ _
 split
 ·exact nw _ _ _
 ·rfl
def A1 (G:List (Nat × Obj)) (f:Nat) (part:PS→Tok→List EF→EF × PS):Prop:=∀ (s:PS) (t:Tok) (n:EN) (l:List EF),s.l.length≤100000→l.length≤100000 →
 HCall Tryz.prog G f [.d (.agg [i64 t.k,.str t.s,i64 t.n,i64 t.pos]),.at [105] 0,.at [102] 0] (NO s n l) [100,101,102,103,105] (fun r hp'=>r=.d (fD (part s t l).1)∧hp'=NO (part s t l).2 n l)
theorem Cg {G}:A1 G 354 pT:=by
 intro s t n l hs hl
 generalize hR:pT s t l=R
 unfold pT at hR
 have c1:=j3 (G:=G) s 2 (by omega)
 have h1:=SS.of s 2
 obtain ⟨nm,s1,e1⟩:∃ nm s1,s.of 2=(nm,s1):=⟨_,_,rfl⟩
 rw [e1] at c1 h1 hR
 simp only at c1 h1 hR
 have l1:=h1.len
 have c2:=uY (G:=G) s1 t n l hl
 have l2:=ri s1 t l
 generalize s1.parted t l=s2 at c2 l2 hR
 have c3:=eE (G:=G) s2 7 [61] (by rw [l2];omega) (by decide)
 generalize s2.must 7 [61]=s3 at c3 hR
 subst hR
 unfold NO FO RO TO ae
 refine ai Tryz.func354 rfl (by decide +kernel) (by simp [Tryz.ntmps354]) (veil fun E=>?_)
 simp only [go_sem]
 refine ab E [.at [100] 0,.d (i64 2)] (RO s) [100,101] (c1) rfl rfl ⟨by simp only [go_sem],by first | (rw [aa];decide) | (simp only [go_sem]<;>(try rw [aa])<;>decide)⟩ rfl (by unfold RO TO ae;simp only [go_sem]) (by unfold RO TO;simp only [go_sem]) ?_
 rintro _ _ ⟨rfl,rfl⟩
 unfold RO TO ae
 simp only [go_sem]
 refine ab E [.at [100] 0,.d (.agg [i64 t.k,.str t.s,i64 t.n,i64 t.pos]),.agg [.d (i64 n.k),.d (i64 n.a),.d (i64 n.b),.d (i64 n.c),.d (i64 n.n),.d (.str n.name),.d (.str n.s),.vw [103] 0 l.length,.d (i64 n.pos)]] (FO s1 l) [100,101,103] (c2) rfl rfl ⟨by simp only [go_sem],by first | (rw [aa];decide) | (simp only [go_sem]<;>(try rw [aa])<;>decide)⟩ rfl (by unfold FO RO TO ae;simp only [go_sem]) (by unfold FO RO TO;simp only [go_sem]) ?_
 rintro _ _ ⟨rfl,rfl⟩
 unfold FO RO TO ae
 simp only [go_sem]
 refine ⟨Nat.le_refl _,?_⟩
 refine ab E [.at [100] 0,.d (i64 7),.d (.str [61])] (RO s2) [100,101] (c3) rfl rfl ⟨by simp only [go_sem],by first | (rw [aa];decide) | (simp only [go_sem]<;>(try rw [aa])<;>decide)⟩ rfl (by unfold RO TO ae;simp only [go_sem]) (by unfold RO TO;simp only [go_sem]) ?_
 rintro _ _ ⟨rfl,rfl⟩
 unfold RO TO ae
 simp only [go_sem]
 refine ⟨_,_,[100,101,102,103,105],id,⟨rfl,rfl⟩,?_⟩
 simp only [go_sem]
 all_goals rfl
theorem BM {G}:A1 G 356 lZ:=by
 intro s t n l hs hl
 generalize hR:lZ s t l=R
 unfold lZ at hR
 have c1:=j3 (G:=G) s 3 (by omega)
 have h1:=SS.of s 3
 obtain ⟨nm,s1,e1⟩:∃ nm s1,s.of 3=(nm,s1):=⟨_,_,rfl⟩
 rw [e1] at c1 h1 hR
 simp only at c1 h1 hR
 have l1:=h1.len
 have c2:=uY (G:=G) s1 t n l hl
 have l2:=ri s1 t l
 generalize s1.parted t l=s2 at c2 l2 hR
 have co:=j3 (G:=G) s2 2 (by rw [l2];omega)
 have ho:=SS.of s2 2
 obtain ⟨nv,so,eo⟩:∃ nv so,s2.of 2=(nv,so):=⟨_,_,rfl⟩
 rw [eo] at co ho hR
 simp only at co ho hR
 have lo:=ho.len
 rw [l2] at lo
 have c3:=eE (G:=G) so 7 bTo (by omega) (by decide)
 generalize so.must 7 bTo=s3 at c3 hR
 subst hR
 unfold NO FO RO TO ae
 refine ai Tryz.func356 rfl (by decide +kernel) (by simp [Tryz.ntmps356]) (veil fun E=>?_)
 simp only [go_sem]
 refine ab E [.at [100] 0,.d (i64 3)] (RO s) [100,101] (c1) rfl rfl ⟨by simp only [go_sem],by first | (rw [aa];decide) | (simp only [go_sem]<;>(try rw [aa])<;>decide)⟩ rfl (by unfold RO TO ae;simp only [go_sem]) (by unfold RO TO;simp only [go_sem]) ?_
 rintro _ _ ⟨rfl,rfl⟩
 unfold RO TO ae
 simp only [go_sem]
 refine ab E [.at [100] 0,.d (.agg [i64 t.k,.str t.s,i64 t.n,i64 t.pos]),.agg [.d (i64 n.k),.d (i64 n.a),.d (i64 n.b),.d (i64 n.c),.d (i64 n.n),.d (.str n.name),.d (.str n.s),.vw [103] 0 l.length,.d (i64 n.pos)]] (FO s1 l) [100,101,103] (c2) rfl rfl ⟨by simp only [go_sem],by first | (rw [aa];decide) | (simp only [go_sem]<;>(try rw [aa])<;>decide)⟩ rfl (by unfold FO RO TO ae;simp only [go_sem]) (by unfold FO RO TO;simp only [go_sem]) ?_
 rintro _ _ ⟨rfl,rfl⟩
 unfold FO RO TO ae
 simp only [go_sem]
 refine ⟨Nat.le_refl _,?_⟩
 refine ab E [.at [100] 0,.d (i64 2)] (RO s2) [100,101] (co) rfl rfl ⟨by simp only [go_sem],by first | (rw [aa];decide) | (simp only [go_sem]<;>(try rw [aa])<;>decide)⟩ rfl (by unfold RO TO ae;simp only [go_sem]) (by unfold RO TO;simp only [go_sem]) ?_
 rintro _ _ ⟨rfl,rfl⟩
 unfold RO TO ae
 simp only [go_sem]
 refine ab E [.at [100] 0,.d (i64 7),.d (.str bTo)] (RO so) [100,101] (c3) rfl rfl ⟨by simp only [go_sem],by first | (rw [aa];decide) | (simp only [go_sem]<;>(try rw [aa])<;>decide)⟩ rfl (by unfold RO TO ae;simp only [go_sem]) (by unfold RO TO;simp only [go_sem]) ?_
 rintro _ _ ⟨rfl,rfl⟩
 unfold RO TO ae
 simp only [go_sem]
 refine ⟨_,_,[100,101,102,103,105],id,⟨rfl,rfl⟩,?_⟩
 simp only [go_sem]
 all_goals rfl
end Go.Proofs.YtejpnabbmgpmaaaGreat

namespace Go.Proofs.YtejpnabbmgpmaaaGreat
open Go.Ab
def NQ (s:PS) (n:EN) (l:List EF) (ks:List (List EN)):List (Name × Ob):=([105],.box [.at [100] 0])::([102],.box [.d (i64 n.k),.d (i64 n.a),.d (i64 n.b),.d (i64 n.c),.d (i64 n.n),.d (.str n.name),.d (.str n.s),.vw [106] 0 l.length,.d (i64 n.pos)])::([106],.arr (some 3) (l.map fD))::([107],.arr (some 1) (ks.map exD))::RO s
theorem uw {G} {N:Nat} {ex:PS→PR} {f:Nat} {part:PS→Tok→List EF→EF × PS} {b:List UInt8} (hex:∀ s,GP 1 s (ex s)) (hc:Reads 53 G N ex) (hp:A1 G f part) (hps:∀ s l,SS s (part s s.peek l).2)
  (s:PS) (n:EN) (hl:s.l.length≤100000) (hN:s.nest=N) :
  HCall Tryz.prog G 353 [.at [100] 0,.at [102] 0,.d (.str b),.clo f [.at [105] 0,.at [102] 0]] (NO s n []) [100,101,102,103,105]
   (fun r hp'=>r=.vw [107] 0 (bd ex b (fun s l=>part s s.peek l) s.l.length.succ s [] []).2.1.length∧hp'=NQ (bd ex b (fun s l=>part s s.peek l) s.l.length.succ s [] []).2.2 n (bd ex b (fun s l=>part s s.peek l) s.l.length.succ s [] []).1 (bd ex b (fun s l=>part s s.peek l) s.l.length.succ s [] []).2.1):=by
 generalize hR:bd ex b (fun s l=>part s s.peek l) s.l.length.succ s [] []=R
 unfold NO FO RO TO ae
 refine ai Tryz.func353 rfl (by decide +kernel) (by simp [Tryz.ntmps353]) (veil fun E=>?_)
 simp only [go_sem]
 refine tD E 9 98 (some 1) rfl (by rw [aa];decide) ?_
 simp only [go_sem]
 refine aG E (X:={ x:Nat × PS × List EF × List (List EN) // bd ex b (fun s l=>part s s.peek l) x.1 x.2.1 x.2.2.1 x.2.2.2=R∧(x.2.1.l.length<x.1∧x.2.2.1.length=x.2.2.2.length∧x.2.2.1.length+x.2.1.l.length≤s.l.length∧x.2.1.nest=N) })
  (fun x=>[(0,.at [100] 0),(1,.at [102] 0),(2,.d (.str b)),(3,.clo f [.at [105] 0,.at [102] 0]),(8,.d .nils),(9,.vw [98] 0 x.1.2.2.2.length)])
  (fun x=>[([105],.box [.at [100] 0]),([102],.box [.d (i64 n.k),.d (i64 n.a),.d (i64 n.b),.d (i64 n.c),.d (i64 n.n),.d (.str n.name),.d (.str n.s),.vw [97] 0 x.1.2.2.1.length,.d (i64 n.pos)]),([97],.arr (some 3) (x.1.2.2.1.map fD)),([98],.arr (some 1) (x.1.2.2.2.map exD)),([100],.box [.at [101] 0,.d (i64 x.1.2.1.err),.d (i64 x.1.2.1.pos),.d (i64 x.1.2.1.nest)]),([101],.box [.d (.sl (some 4) (x.1.2.1.l.map fU)),.d (i64 x.1.2.1.fin)])]) [97,98,100,101,102,103,105] (fun x=>x.1.2.1.l.length) ⟨(s.l.length.succ,s,[],[]),hR,Nat.lt_succ_self _,rfl,by simp,hN⟩ (tau [([97],[103])]) ?_ ?_
 ·simp only [go_sem]
  all_goals rfl
 rintro ⟨⟨m,q,l,ks⟩,hb,hm,hlk,hls,hqn⟩ E0
 refine aZ E0 fun Q' hQ E'=>?_
 simp only at hb hm hlk hls hqn ⊢
 obtain ⟨m,rfl⟩:∃ k,m=k+1:=⟨m-1,by omega⟩
 rw [bd] at hb
 simp only [go_sem]
 have h1:=hp q q.peek n l (by omega) (by omega)
 have g1:=hps q l
 obtain ⟨fd,s1,e1⟩:∃ fd s1,part q q.peek l=(fd,s1):=⟨_,_,rfl⟩
 rw [e1] at h1 g1 hb
 simp only at h1 g1 hb
 rw [show fD fd=.agg [.str fd.nm,.str fd.var,i64 fd.to] from rfl] at h1
 have n1:=g1.len
 have h2:=hc s1 (by omega) (g1.nest.trans hqn)
 have g2:=hex s1
 obtain ⟨x1,s2,e2⟩:∃ x1 s2,ex s1=(x1,s2):=⟨_,_,rfl⟩
 rw [e2] at h2 g2 hb
 simp only at h2 hb
 have n2:=g2.ss.len
 have z2:=g2.ss.nest
 simp only at n2 z2
 have h3:=iu (G:=G) s2 b (by omega)
 unfold exD at h2
 refine ab E' [.at [101] 0] (TO q.l q.fin) [101] (cZ q.l q.fin (by omega)) rfl rfl ⟨by simp only [go_sem],by first | (rw [aa];decide) | (simp only [go_sem]<;>(try rw [aa])<;>decide)⟩ rfl (by unfold TO ae;simp only [go_sem]) (by unfold TO;simp only [go_sem]) ?_
 rintro _ _ ⟨rfl,rfl⟩
 unfold TO ae
 simp only [go_sem]
 refine aS E' (tau [([103],[97])]) [.d (.agg [i64 q.peek.k,.str q.peek.s,i64 q.peek.n,i64 q.peek.pos]),.at [105] 0,.at [102] 0] (NO q n l) [100,101,102,103,105] (h1) rfl (by simp only [go_sem];try rfl) ⟨by simp only [go_sem],by first | (rw [aa];decide) | (simp only [go_sem]<;>(try rw [aa])<;>decide)⟩ rfl (by unfold NO FO RO TO ae;simp only [go_sem]) (by unfold NO FO RO TO;simp only [go_sem]) ?_
 rintro _ _ ⟨rfl,rfl⟩
 unfold NO FO RO TO ae
 simp only [go_sem]
 refine ⟨Nat.le_refl _,?_⟩
 refine ab E' [.at [100] 0] (RO s1) [100,101] (h2) rfl rfl ⟨by simp only [go_sem],by first | (rw [aa];decide) | (simp only [go_sem]<;>(try rw [aa])<;>decide)⟩ rfl (by unfold RO TO ae;simp only [go_sem]) (by unfold RO TO;simp only [go_sem]) ?_
 rintro _ _ ⟨rfl,rfl⟩
 unfold RO TO ae
 simp only [go_sem]
 refine ⟨by omega,?_⟩
 rw [show List.map exD ks++[.agg [.sl (some 9) (List.map enD x1)]]=(ks++[x1]).map exD by rw [List.map_append];rfl]
 refine ah mixed E' fun X=>?_
 simp only [go_sem]
 refine aA X (d:=27) [102] 0 none [.d (i64 n.k),.d (i64 n.a),.d (i64 n.b),.d (i64 n.c),.d (i64 n.n),.d (.str n.name),.d (.str n.s),.vw [97] 0 l.length,.d (i64 n.pos)] (by simp only [go_sem]) rfl rfl ?_
 simp only [go_sem]
 rw [show List.map fD l++[.agg [.str fd.nm,.str fd.var,i64 fd.to]]=(l++[fd]).map fD by rw [List.map_append];rfl]
 refine ⟨by omega,?_⟩
 refine aA X (d:=33) [102] 0 none [.d (i64 n.k),.d (i64 n.a),.d (i64 n.b),.d (i64 n.c),.d (i64 n.n),.d (.str n.name),.d (.str n.s),.vw [97] 0 l.length,.d (i64 n.pos)] (by simp only [go_sem]) rfl rfl ?_
 simp only [go_sem]
 refine ⟨by decide +kernel,?_⟩
 refine ab E' [.at [100] 0,.d (.str b)] (RO s2) [100,101] (h3) rfl rfl ⟨by simp only [go_sem],by first | (rw [aa];decide) | (simp only [go_sem]<;>(try rw [aa])<;>decide)⟩ rfl (by unfold RO TO ae;simp only [go_sem]) (by unfold RO TO;simp only [go_sem]) ?_
 rintro _ _ ⟨rfl,rfl⟩
 unfold RO TO ae
 simp only [go_sem]
 refine aI E' (fun h=>?_) (fun h=>?_)<;>simp only [go_sem]
 ·have h':s2.sees 7 b=false:=by simpa using h
  rw [ej h',hQ]
  rw [if_neg (by rw [h'];decide)] at hb
  subst hb
  simp only [go_sem]
  refine ⟨_,_,[100,101,102,103,105,106,107],tau [([106],[32]),([107],[24])],⟨rfl,rfl⟩,?_⟩
  unfold NQ RO TO ae
  simp only [go_sem]
  simp only [List.length_append,List.length_singleton,and_self]
 ·have h':s2.sees 7 b=true:=by simpa using h
  have hsl:=aL h'
  rw [cO h',hQ]
  rw [if_pos h'] at hb
  simp only [go_sem]
  refine ⟨⟨(m,s2.next,l++[fd],ks++[x1]),hb,by show s2.next.l.length<m;omega,by simp [hlk],by show (l++[fd]).length+s2.next.l.length≤_;rw [List.length_append,List.length_singleton];omega,by show s2.next.nest=N;rw [← hqn,← g1.nest,← z2];rfl⟩,by show s2.next.l.length<q.l.length;omega,tau [([97],[32]),([98],[24])],?_,?_,?_,?_,?_⟩<;>simp only [go_sem]
  all_goals simp only [List.length_append,List.length_singleton,and_self]
end Go.Proofs.YtejpnabbmgpmaaaGreat

namespace Go.Proofs.YtejpnabbmgpmaaaGreat
open Go.Ab
theorem BD {G} {N:Nat} {ex:PS→PR} (hex:∀ s,GP 1 s (ex s)) (hc:Reads 53 G N ex):o5 340 G N (dV ex):=by
 intro s p hl hN
 generalize hR:dV ex s p=R
 unfold dV at hR
 have h0:=iu (G:=G) s [125] (by omega)
 have hg:=er hex [44] fN SS.field s.l.length.succ s [] [] rfl (fun _ h=>by cases h)
 have hp:=uw (G:=G) (b:=[44]) hex hc (Cg (G:=G)) (fun s l=>SS.field s l) s (nd0 11 p) hl hN
 rw [show (fun s l=>pT s s.peek l)=fN from rfl] at hp
 obtain ⟨F,hF⟩:∃ F,F=bd ex [44] fN s.l.length.succ s [] []:=⟨_,rfl⟩
 rw [← hF] at hg hp
 simp only [← hF] at hR
 obtain ⟨fl,ks,q⟩:=F
 simp only at hp hR
 have g1:=hg.sz
 have g2:=hg.ln
 have g3:=hg.ss.len
 have g4:=hg.eq
 simp only [aV,List.map_nil,List.sum_nil,List.length_nil] at g1 g2 g3 g4
 have hm:=eE (G:=G) q 7 [125] (by omega) (by decide)
 have h4:=pO (G:=G) { nd0 11 p with l:=fl } ks (by simp only;omega) (by omega) (by simp only [aV];omega)
  (fun l h=>(hg.tr l h).kids.2) (fun l h=>(hg.wd (s.l.length+1) (fun _ h=>by cases h) (by simp only;omega) l h).mono (by omega))
 unfold RO TO ae
 refine ai Tryz.func340 rfl (by decide +kernel) (by simp [Tryz.ntmps340]) (veil fun E=>?_)
 simp only [go_sem]
 refine ab E [.at [100] 0,.d (.str [125])] (RO s) [100,101] (h0) rfl rfl ⟨by simp only [go_sem],by first | (rw [aa];decide) | (simp only [go_sem]<;>(try rw [aa])<;>decide)⟩ rfl (by unfold RO TO ae;simp only [go_sem]) (by unfold RO TO;simp only [go_sem]) ?_
 rintro _ _ ⟨rfl,rfl⟩
 unfold RO TO ae
 simp only [go_sem]
 refine aI E (fun h=>?_) (fun h=>?_)<;>simp only [go_sem]
 ·rw [if_pos h] at hR
  rw [cO h]
  have hlf:=eV (G:=G) (nd0 11 p) rfl
  generalize bV (nd0 11 p)=L at hlf hR
  unfold exD at hlf
  refine ag E hlf rfl rfl (by simp) ?_
  rintro _ rfl
  simp only [go_sem]
  subst hR
  refine ⟨_,_,[100,101],id,⟨rfl,rfl⟩,?_⟩
  simp only [go_sem]
  rfl
 ·rw [if_neg (by rw [h];decide)] at hR
  rw [ej h]
  refine p5 E [5] 7 98 (some 3) [.d (i64 11),.d (i64 0),.d (i64 0),.d (i64 0),.d (i64 0),.d (.str []),.d (.str []),.d .nils,.d (i64 p)] rfl rfl (by rw [aa];decide) rfl ?_
  simp only [go_sem]
  refine aS E (tau [([105],[2]),([102],[5]),([103],[98])]) [.at [100] 0,.at [102] 0,.d (.str [44]),.clo 354 [.at [105] 0,.at [102] 0]] (NO s (nd0 11 p) []) [100,101,102,103,105] (hp) rfl (by simp only [go_sem];try rfl) ⟨by simp only [go_sem],by first | (rw [aa];decide) | (simp only [go_sem]<;>(try rw [aa])<;>decide)⟩ rfl (by unfold NO FO RO TO ae;simp only [go_sem];try rfl) (by unfold NO FO RO TO;simp only [go_sem]) ?_
  rintro _ _ ⟨rfl,rfl⟩
  unfold NQ NO FO RO TO ae nd0
  simp only [go_sem]
  refine ab E [.at [100] 0,.d (i64 7),.d (.str [125])] (RO q) [100,101] (hm) rfl rfl ⟨by simp only [go_sem],by first | (rw [aa];decide) | (simp only [go_sem]<;>(try rw [aa])<;>decide)⟩ rfl (by unfold RO TO ae;simp only [go_sem]) (by unfold RO TO;simp only [go_sem]) ?_
  rintro _ _ ⟨rfl,rfl⟩
  unfold RO TO ae
  simp only [go_sem]
  refine jX E [15,107] (some 1) (ks.map exD) rfl (by simp only [go_sem];rfl) ?_
  simp only [go_sem]
  refine jX E [15,106] (some 3) (fl.map fD) rfl (by simp only [go_sem];rfl) ?_
  simp only [go_sem]
  generalize ax { nd0 11 p with l:=fl } ks=J at h4 hR
  unfold exD at h4
  refine ag E h4 rfl rfl (by simp) ?_
  rintro _ rfl
  simp only [go_sem]
  subst hR
  refine ⟨_,_,[100,101],id,⟨rfl,rfl⟩,?_⟩
  simp only [go_sem]
  rfl
theorem CN {G} {N:Nat} {ex:PS→PR} (hex:∀ s,GP 1 s (ex s)) (hc:Reads 53 G N ex):o5 341 G N (gf ex):=by
 intro s p hl hN
 generalize hR:gf ex s p=R
 unfold gf at hR
 have ce:=hc s hl hN
 have he:=hex s
 obtain ⟨e,s0,e0⟩:∃ e s0,ex s=(e,s0):=⟨_,_,rfl⟩
 rw [e0] at ce he hR
 simp only at ce hR
 have le:=he.ss.len
 have ne:=he.ss.nest
 have ze:=he.sz
 simp only at le ne ze
 have cm:=eE (G:=G) s0 1 bOf (by omega) (by decide)
 have hm:=SS.must s0 1 bOf
 generalize s0.must 1 bOf=s1 at cm hm hR
 have lm:=hm.len
 have nm:=hm.nest
 have hg:=er hex [124] ef SS.branch s1.l.length.succ s1 [] [] rfl (fun _ h=>by cases h)
 have hp:=uw (G:=G) (b:=[124]) hex hc (BM (G:=G)) (fun s l=>SS.branch s l) s1 (nd0 14 p) (by omega) (by rw [nm,ne,hN])
 rw [show (fun s l=>lZ s s.peek l)=ef from rfl] at hp
 obtain ⟨F,hF⟩:∃ F,F=bd ex [124] ef s1.l.length.succ s1 [] []:=⟨_,rfl⟩
 rw [← hF] at hg hp
 simp only [← hF] at hR
 obtain ⟨fl,ks,q⟩:=F
 simp only at hp hR
 have g1:=hg.sz
 have g2:=hg.ln
 have g3:=hg.ss.len
 have g4:=hg.eq
 simp only [aV,List.map_nil,List.sum_nil,List.length_nil] at g1 g2 g3 g4
 have cx:=eE (G:=G) q 1 CL (by omega) (by decide)
 have h4:=pO (G:=G) { nd0 14 p with l:=fl } (e::ks) (by simp only;omega) (by rw [List.length_cons];omega) (by simp only [aV,List.map_cons,List.sum_cons];omega)
  (fun l h=>by
   rcases List.mem_cons.1 h with rfl | h
   ·exact he.tr.kids.2
   ·exact (hg.tr l h).kids.2)
  (fun l h=>by
   rcases List.mem_cons.1 h with rfl | h
   ·exact he.wd.mono (by omega)
   ·exact (hg.wd (s1.l.length+1) (fun _ h=>by cases h) (by simp only;omega) l h).mono (by omega))
 unfold exD at ce
 unfold RO TO ae
 refine ai Tryz.func341 rfl (by decide +kernel) (by simp [Tryz.ntmps341]) (veil fun E=>?_)
 simp only [go_sem]
 refine ab E [.at [100] 0] (RO s) [100,101] (ce) rfl rfl ⟨by simp only [go_sem],by first | (rw [aa];decide) | (simp only [go_sem]<;>(try rw [aa])<;>decide)⟩ rfl (by unfold RO TO ae;simp only [go_sem]) (by unfold RO TO;simp only [go_sem]) ?_
 rintro _ _ ⟨rfl,rfl⟩
 unfold RO TO ae
 simp only [go_sem]
 refine ab E [.at [100] 0,.d (i64 1),.d (.str bOf)] (RO s0) [100,101] (cm) rfl rfl ⟨by simp only [go_sem],by first | (rw [aa];decide) | (simp only [go_sem]<;>(try rw [aa])<;>decide)⟩ rfl (by unfold RO TO ae;simp only [go_sem]) (by unfold RO TO;simp only [go_sem]) ?_
 rintro _ _ ⟨rfl,rfl⟩
 unfold RO TO ae
 simp only [go_sem]
 refine p5 E [5] 7 98 (some 3) [.d (i64 14),.d (i64 0),.d (i64 0),.d (i64 0),.d (i64 0),.d (.str []),.d (.str []),.d .nils,.d (i64 p)] rfl rfl (by rw [aa];decide) rfl ?_
 simp only [go_sem]
 refine aS E (tau [([105],[2]),([102],[5]),([103],[98])]) [.at [100] 0,.at [102] 0,.d (.str [124]),.clo 356 [.at [105] 0,.at [102] 0]] (NO s1 (nd0 14 p) []) [100,101,102,103,105] (hp) rfl (by simp only [go_sem];try rfl) ⟨by simp only [go_sem],by first | (rw [aa];decide) | (simp only [go_sem]<;>(try rw [aa])<;>decide)⟩ rfl (by unfold NO FO RO TO ae;simp only [go_sem];try rfl) (by unfold NO FO RO TO;simp only [go_sem]) ?_
 rintro _ _ ⟨rfl,rfl⟩
 unfold NQ NO FO RO TO ae nd0
 simp only [go_sem]
 refine ab E [.at [100] 0,.d (i64 1),.d (.str CL)] (RO q) [100,101] (cx) rfl rfl ⟨by simp only [go_sem],by first | (rw [aa];decide) | (simp only [go_sem]<;>(try rw [aa])<;>decide)⟩ rfl (by unfold RO TO ae;simp only [go_sem]) (by unfold RO TO;simp only [go_sem]) ?_
 rintro _ _ ⟨rfl,rfl⟩
 unfold RO TO ae
 simp only [go_sem]
 refine kl E [16,107] (some 1) (ks.map exD) rfl ?_
 simp only [go_sem]
 refine kl E [16,106] (some 3) (fl.map fD) rfl ?_
 simp only [go_sem]
 refine ah mixed E fun X=>?_
 simp only [go_sem]
 refine ⟨by omega,?_⟩
 generalize ax { nd0 14 p with l:=fl } (e::ks)=J at h4 hR
 unfold exD at h4
 refine bX X 23 [23] (some 1) (.agg [.sl (some 9) (e.map enD)]::ks.map exD) h4 (fun _=>rfl) rfl rfl rfl (by simp) (by rw [List.drop_zero,List.take_of_length_le (by simp;omega)];rfl) (by simp only [go_sem]) ?_
 simp only [go_sem]
 refine ⟨by decide +kernel,?_⟩
 subst hR
 refine ⟨_,_,[100,101],id,⟨rfl,rfl⟩,?_⟩
 simp only [go_sem]
 rfl
end Go.Proofs.YtejpnabbmgpmaaaGreat

namespace Go.Proofs.YtejpnabbmgpmaaaGreat
open Go.Ab
theorem CZ {G} {N:Nat} {ex:PS→PR} (hex:∀ s,GP 1 s (ex s)) (hc:Reads 53 G N ex):Reads 329 G N (cW ex):=by
 intro s hl hN
 generalize hR:cW ex s=R
 unfold cW at hR
 rw [iE] at hR
 have hpk:=cZ (G:=G) s.l s.fin (by omega)
 generalize bE s.l s.fin=t at hpk hR
 simp only at hR
 have hnx:s.next.nest=N:=hN
 have hnl:s.next.l.length≤100000:=by have:=(SS.next s).len;omega
 have c1:=iP (G:=G) s jB (by omega)
 have c2:=iP (G:=G) s ga (by omega)
 have c3:=iu (G:=G) s [40] (by omega)
 have c4:=iu (G:=G) s [123] (by omega)
 have c5:=iP (G:=G) s kN (by omega)
 have cr:=BD (G:=G) hex hc s.next t.pos hnl hnx
 have cc:=CN (G:=G) hex hc s.next t.pos hnl hnx
 have ce:=hc s.next hnl hnx
 have he:=hex s.next
 generalize dV ex s.next t.pos=R1 at hR cr
 generalize gf ex s.next t.pos=R2 at hR cc
 obtain ⟨e0,s0,h0⟩:∃ e0 s0,ex s.next=(e0,s0):=⟨_,_,rfl⟩
 rw [h0] at ce hR he
 have ln:=he.ss.len
 simp only at hR ce ln
 have cm:=eE (G:=G) s0 7 [41] (by omega) (by decide)
 unfold exD at cr cc ce
 unfold RO TO ae
 refine ai Tryz.func329 rfl (by decide +kernel) (by simp [Tryz.ntmps329]) (veil fun E=>?_)
 simp only [go_sem]
 refine ab E [.at [101] 0] (TO s.l s.fin) [101] (hpk) rfl rfl ⟨by simp only [go_sem],by first | (rw [aa];decide) | (simp only [go_sem]<;>(try rw [aa])<;>decide)⟩ rfl (by unfold TO ae;simp only [go_sem]) (by unfold TO;simp only [go_sem]) ?_
 rintro _ _ ⟨rfl,rfl⟩
 unfold TO ae
 simp only [go_sem]
 refine ab E [.at [100] 0] (RO s) [100,101] (eC s) rfl rfl ⟨by simp only [go_sem],by first | (rw [aa];decide) | (simp only [go_sem]<;>(try rw [aa])<;>decide)⟩ rfl (by unfold RO TO ae;simp only [go_sem]) (by unfold RO TO;simp only [go_sem]) ?_
 rintro _ _ ⟨rfl,rfl⟩
 unfold RO TO ae
 simp only [go_sem]
 refine aI E (fun h=>?_) (fun h=>?_)<;>simp only [go_sem]
 ·rw [if_pos (by simpa using h)] at hR
  refine ab E [.at [100] 0] (RO s) [100,101] (mm s (by omega)) rfl rfl ⟨by simp only [go_sem],by first | (rw [aa];decide) | (simp only [go_sem]<;>(try rw [aa])<;>decide)⟩ rfl (by unfold RO TO ae;simp only [go_sem]) (by unfold RO TO;simp only [go_sem]) ?_
  rintro _ _ ⟨rfl,rfl⟩
  unfold RO TO ae
  simp only [go_sem]
  have hlf:=eV (G:=G) (nd0 1 0) rfl
  unfold noE at hR
  generalize bV (nd0 1 0)=L at hlf hR
  unfold exD at hlf
  refine ag E hlf rfl rfl (by simp) ?_
  rintro _ rfl
  simp only [go_sem]
  subst hR
  refine ⟨_,_,[100,101],id,⟨rfl,rfl⟩,?_⟩
  simp only [go_sem]
  all_goals first | rfl | exact ⟨rfl,rfl,rfl⟩
 rw [if_neg (by simpa using h)] at hR
 refine aj E (fun h=>?_) (fun h=>?_)<;>simp only [go_sem]
 ·rw [if_pos h] at hR
  refine ab E [.at [101] 0] (TO s.l s.fin) [101] (iv s.l s.fin (by omega)) rfl rfl ⟨by simp only [go_sem],by first | (rw [aa];decide) | (simp only [go_sem]<;>(try rw [aa])<;>decide)⟩ rfl (by unfold TO ae;simp only [go_sem]) (by unfold TO;simp only [go_sem]) ?_
  rintro _ _ ⟨rfl,rfl⟩
  unfold TO ae
  simp only [go_sem]
  have hlf:=eV (G:=G) ({ nd0 1 t.pos with n:=t.n }) rfl
  generalize bV ({ nd0 1 t.pos with n:=t.n })=L at hlf hR
  unfold exD at hlf
  refine ag E hlf rfl rfl (by simp) ?_
  rintro _ rfl
  simp only [go_sem]
  subst hR
  refine ⟨_,_,[100,101],id,⟨rfl,rfl⟩,?_⟩
  simp only [go_sem]
  all_goals first | rfl | exact ⟨rfl,rfl,rfl⟩
 rw [if_neg h] at hR
 refine aj E (fun h=>?_) (fun h=>?_)<;>simp only [go_sem]
 ·rw [if_pos h] at hR
  refine ab E [.at [101] 0] (TO s.l s.fin) [101] (iv s.l s.fin (by omega)) rfl rfl ⟨by simp only [go_sem],by first | (rw [aa];decide) | (simp only [go_sem]<;>(try rw [aa])<;>decide)⟩ rfl (by unfold TO ae;simp only [go_sem]) (by unfold TO;simp only [go_sem]) ?_
  rintro _ _ ⟨rfl,rfl⟩
  unfold TO ae
  simp only [go_sem]
  have hlf:=eV (G:=G) ({ nd0 3 t.pos with s:=t.s }) rfl
  generalize bV ({ nd0 3 t.pos with s:=t.s })=L at hlf hR
  unfold exD at hlf
  refine ag E hlf rfl rfl (by simp) ?_
  rintro _ rfl
  simp only [go_sem]
  subst hR
  refine ⟨_,_,[100,101],id,⟨rfl,rfl⟩,?_⟩
  simp only [go_sem]
  all_goals first | rfl | exact ⟨rfl,rfl,rfl⟩
 rw [if_neg h] at hR
 refine aj E (fun h=>?_) (fun h=>?_)<;>simp only [go_sem]
 ·rw [if_pos h] at hR
  refine ab E [.at [101] 0] (TO s.l s.fin) [101] (iv s.l s.fin (by omega)) rfl rfl ⟨by simp only [go_sem],by first | (rw [aa];decide) | (simp only [go_sem]<;>(try rw [aa])<;>decide)⟩ rfl (by unfold TO ae;simp only [go_sem]) (by unfold TO;simp only [go_sem]) ?_
  rintro _ _ ⟨rfl,rfl⟩
  unfold TO ae
  simp only [go_sem]
  have hlf:=eV (G:=G) ({ nd0 4 t.pos with name:=t.s }) rfl
  generalize bV ({ nd0 4 t.pos with name:=t.s })=L at hlf hR
  unfold exD at hlf
  refine ag E hlf rfl rfl (by simp) ?_
  rintro _ rfl
  simp only [go_sem]
  subst hR
  refine ⟨_,_,[100,101],id,⟨rfl,rfl⟩,?_⟩
  simp only [go_sem]
  all_goals first | rfl | exact ⟨rfl,rfl,rfl⟩
 rw [if_neg h] at hR
 refine ab E [.at [100] 0,.d (.str jB)] (RO s) [100,101] (c1) rfl rfl ⟨by simp only [go_sem],by first | (rw [aa];decide) | (simp only [go_sem]<;>(try rw [aa])<;>decide)⟩ rfl (by unfold RO TO ae;simp only [go_sem]) (by unfold RO TO;simp only [go_sem]) ?_
 rintro _ _ ⟨rfl,rfl⟩
 unfold RO TO ae
 simp only [go_sem]
 refine aI E (fun h=>?_) (fun h=>?_)<;>simp only [go_sem]
 ·rw [if_pos h] at hR
  rw [cO h]
  have hlf:=eV (G:=G) ({ nd0 2 t.pos with n:=1 }) rfl
  generalize bV ({ nd0 2 t.pos with n:=1 })=L at hlf hR
  unfold exD at hlf
  refine ag E hlf rfl rfl (by simp) ?_
  rintro _ rfl
  simp only [go_sem]
  subst hR
  refine ⟨_,_,[100,101],id,⟨rfl,rfl⟩,?_⟩
  simp only [go_sem]
  all_goals first | rfl | exact ⟨rfl,rfl,rfl⟩
 rw [if_neg (by rw [h];decide)] at hR
 rw [ej h]
 refine ab E [.at [100] 0,.d (.str ga)] (RO s) [100,101] (c2) rfl rfl ⟨by simp only [go_sem],by first | (rw [aa];decide) | (simp only [go_sem]<;>(try rw [aa])<;>decide)⟩ rfl (by unfold RO TO ae;simp only [go_sem]) (by unfold RO TO;simp only [go_sem]) ?_
 rintro _ _ ⟨rfl,rfl⟩
 unfold RO TO ae
 simp only [go_sem]
 refine aI E (fun h=>?_) (fun h=>?_)<;>simp only [go_sem]
 ·rw [if_pos h] at hR
  rw [cO h]
  have hlf:=eV (G:=G) (nd0 2 t.pos) rfl
  generalize bV (nd0 2 t.pos)=L at hlf hR
  unfold exD at hlf
  refine ag E hlf rfl rfl (by simp) ?_
  rintro _ rfl
  simp only [go_sem]
  subst hR
  refine ⟨_,_,[100,101],id,⟨rfl,rfl⟩,?_⟩
  simp only [go_sem]
  all_goals first | rfl | exact ⟨rfl,rfl,rfl⟩
 rw [if_neg (by rw [h];decide)] at hR
 rw [ej h]
 refine ab E [.at [100] 0,.d (.str [40])] (RO s) [100,101] (c3) rfl rfl ⟨by simp only [go_sem],by first | (rw [aa];decide) | (simp only [go_sem]<;>(try rw [aa])<;>decide)⟩ rfl (by unfold RO TO ae;simp only [go_sem]) (by unfold RO TO;simp only [go_sem]) ?_
 rintro _ _ ⟨rfl,rfl⟩
 unfold RO TO ae
 simp only [go_sem]
 refine aI E (fun h=>?_) (fun h=>?_)<;>simp only [go_sem]
 ·rw [if_pos h] at hR
  rw [cO h]
  refine ab E [.at [100] 0] (RO s.next) [100,101] (ce) rfl rfl ⟨by simp only [go_sem],by first | (rw [aa];decide) | (simp only [go_sem]<;>(try rw [aa])<;>decide)⟩ rfl (by unfold RO TO ae;simp only [go_sem]) (by unfold RO TO;simp only [go_sem]) ?_
  rintro _ _ ⟨rfl,rfl⟩
  unfold RO TO ae
  simp only [go_sem]
  refine ab E [.at [100] 0,.d (i64 7),.d (.str [41])] (RO s0) [100,101] (cm) rfl rfl ⟨by simp only [go_sem],by first | (rw [aa];decide) | (simp only [go_sem]<;>(try rw [aa])<;>decide)⟩ rfl (by unfold RO TO ae;simp only [go_sem]) (by unfold RO TO;simp only [go_sem]) ?_
  rintro _ _ ⟨rfl,rfl⟩
  unfold RO TO ae
  simp only [go_sem]
  subst hR
  refine ⟨_,_,[100,101],id,⟨rfl,rfl⟩,?_⟩
  simp only [go_sem]
  all_goals rfl
 rw [if_neg (by rw [h];decide)] at hR
 rw [ej h]
 refine ab E [.at [100] 0,.d (.str [123])] (RO s) [100,101] (c4) rfl rfl ⟨by simp only [go_sem],by first | (rw [aa];decide) | (simp only [go_sem]<;>(try rw [aa])<;>decide)⟩ rfl (by unfold RO TO ae;simp only [go_sem]) (by unfold RO TO;simp only [go_sem]) ?_
 rintro _ _ ⟨rfl,rfl⟩
 unfold RO TO ae
 simp only [go_sem]
 refine aI E (fun h=>?_) (fun h=>?_)<;>simp only [go_sem]
 ·rw [if_pos h] at hR
  rw [cO h]
  refine ab E [.at [100] 0,.d (i64 t.pos)] (RO s.next) [100,101] (cr) rfl rfl ⟨by simp only [go_sem],by first | (rw [aa];decide) | (simp only [go_sem]<;>(try rw [aa])<;>decide)⟩ rfl (by unfold RO TO ae;simp only [go_sem]) (by unfold RO TO;simp only [go_sem]) ?_
  rintro _ _ ⟨rfl,rfl⟩
  unfold RO TO ae
  simp only [go_sem]
  subst hR
  refine ⟨_,_,[100,101],id,⟨rfl,rfl⟩,?_⟩
  simp only [go_sem]
  all_goals rfl
 rw [if_neg (by rw [h];decide)] at hR
 rw [ej h]
 refine ab E [.at [100] 0,.d (.str kN)] (RO s) [100,101] (c5) rfl rfl ⟨by simp only [go_sem],by first | (rw [aa];decide) | (simp only [go_sem]<;>(try rw [aa])<;>decide)⟩ rfl (by unfold RO TO ae;simp only [go_sem]) (by unfold RO TO;simp only [go_sem]) ?_
 rintro _ _ ⟨rfl,rfl⟩
 unfold RO TO ae
 simp only [go_sem]
 refine aI E (fun h=>?_) (fun h=>?_)<;>simp only [go_sem]
 ·rw [if_pos h] at hR
  rw [cO h]
  refine ab E [.at [100] 0,.d (i64 t.pos)] (RO s.next) [100,101] (cc) rfl rfl ⟨by simp only [go_sem],by first | (rw [aa];decide) | (simp only [go_sem]<;>(try rw [aa])<;>decide)⟩ rfl (by unfold RO TO ae;simp only [go_sem]) (by unfold RO TO;simp only [go_sem]) ?_
  rintro _ _ ⟨rfl,rfl⟩
  unfold RO TO ae
  simp only [go_sem]
  subst hR
  refine ⟨_,_,[100,101],id,⟨rfl,rfl⟩,?_⟩
  simp only [go_sem]
  all_goals rfl
 rw [if_neg (by rw [h];decide)] at hR
 rw [ej h]
 refine ab E [.at [100] 0] (RO s) [100,101] (mm s (by omega)) rfl rfl ⟨by simp only [go_sem],by first | (rw [aa];decide) | (simp only [go_sem]<;>(try rw [aa])<;>decide)⟩ rfl (by unfold RO TO ae;simp only [go_sem]) (by unfold RO TO;simp only [go_sem]) ?_
 rintro _ _ ⟨rfl,rfl⟩
 unfold RO TO ae
 simp only [go_sem]
 have hlf:=eV (G:=G) (nd0 1 0) rfl
 unfold noE at hR
 generalize bV (nd0 1 0)=L at hlf hR
 unfold exD at hlf
 refine ag E hlf rfl rfl (by simp) ?_
 rintro _ rfl
 simp only [go_sem]
 subst hR
 refine ⟨_,_,[100,101],id,⟨rfl,rfl⟩,?_⟩
 simp only [go_sem]
 all_goals first | rfl | exact ⟨rfl,rfl,rfl⟩
end Go.Proofs.YtejpnabbmgpmaaaGreat

namespace Go.Proofs.YtejpnabbmgpmaaaGreat
open Go.Ab
theorem y3 (s:PS) (e p:Int) (he:e≠0):(s.fail e p).err≠0:=by
 unfold PS.fail
 split
 ·exact he
 ·assumption
theorem yI {G}:Reads 53 G 100 (gz 0):=by
 intro s hl hN
 generalize hR:gz 0 s=R
 unfold gz at hR
 rw [iE] at hR
 have hpk:=cZ (G:=G) s.l s.fin (by omega)
 generalize bE s.l s.fin=t at hpk hR
 have hf:=mw (G:=G) s 6 t.pos
 have hne:=y3 s 6 t.pos (by decide)
 generalize s.fail 6 t.pos=s2 at hf hne hR
 unfold noE at hR
 have hlf:=eV (G:=G) (nd0 1 0) rfl
 generalize bV (nd0 1 0)=L at hlf hR
 subst hR
 unfold exD at hlf
 unfold RO TO ae
 refine vH Tryz.func53 rfl (by decide +kernel) (by simp [Tryz.ntmps53]) fun B0 hB0=>?_
 refine bJ (aH fun E=>?_)
 simp only [go_sem]
 refine bJ (aH fun E=>?_)
 simp only [go_sem]
 refine ab E [.at [101] 0] (TO s.l s.fin) [101] (hpk) rfl rfl ⟨by simp only [go_sem],by first | (rw [aa];decide) | (simp only [go_sem]<;>(try rw [aa])<;>decide)⟩ rfl (by unfold TO ae;simp only [go_sem]) (by unfold TO;simp only [go_sem]) ?_
 rintro _ _ ⟨rfl,rfl⟩
 unfold TO ae
 simp only [go_sem]
 refine bJ (aH fun E=>?_)
 simp only [go_sem]
 refine aj E (fun h=>?_) (fun h=>absurd (by omega) h)<;>simp only [go_sem]
 refine ab E [.at [100] 0,.d (i64 6),.d (i64 t.pos)] (RO s) [100,101] (hf) rfl rfl ⟨by simp only [go_sem],by first | (rw [aa];decide) | (simp only [go_sem]<;>(try rw [aa])<;>decide)⟩ rfl (by unfold RO TO ae;simp only [go_sem]) (by unfold RO TO;simp only [go_sem]) ?_
 rintro _ _ ⟨rfl,rfl⟩
 unfold RO TO ae
 simp only [go_sem]
 refine bJ (aH fun E=>?_)
 simp only [go_sem]
 refine ab E [.at [100] 0] (RO s2) [100,101] (eC s2) rfl rfl ⟨by simp only [go_sem],by first | (rw [aa];decide) | (simp only [go_sem]<;>(try rw [aa])<;>decide)⟩ rfl (by unfold RO TO ae;simp only [go_sem]) (by unfold RO TO;simp only [go_sem]) ?_
 rintro _ _ ⟨rfl,rfl⟩
 unfold RO TO ae
 simp only [go_sem]
 refine aI E (fun g=>?_) (fun g=>absurd (by simpa using g) hne)<;>simp only [go_sem]
 refine ag E hlf rfl rfl (by simp) ?_
 rintro _ rfl
 simp only [go_sem]
 refine vg (.inl rfl) hB0 ?_
 simp only [go_sem]
 refine ⟨_,_,[100,101],id,⟨rfl,rfl⟩,?_⟩
 simp only [go_sem]
 rfl
def zH (ex:PS→PR) (s:PS):PR:=if s.err≠0 then (noE,s) else
 let r:=mL ex { s with nest:=s.nest+1 }
 (r.1,{ r.2 with nest:=s.nest })
set_option maxHeartbeats 1000000 in
theorem Af {G} {N:Nat} {ex:PS→PR} (hN0:N<100) (hex:∀ s,GP 1 s (ex s)) (hc:Reads 53 G (N+1) ex):Reads 53 G N (zH ex):=by
 intro s hl hN
 generalize hR:zH ex s=R
 unfold zH mL at hR
 have hp1:({ s with nest:=s.nest+1 }:PS).peek=bE s.l s.fin:=rfl
 obtain ⟨s1,hs1⟩:∃ s1:PS,s1={ s with nest:=s.nest+1 }:=⟨_,rfl⟩
 rw [← hs1] at hp1
 simp only [← hs1,hp1] at hR
 have hpk:=cZ (G:=G) s.l s.fin (by omega)
 generalize bE s.l s.fin=t at hpk hR
 have l1:s1.l.length≤100000:=by rw [hs1];exact hl
 have n1:s1.nest=N+1:=by rw [hs1];show s.nest+1=_;rw [hN]
 have hlf:=eV (G:=G) (nd0 1 0) rfl
 unfold noE at hR
 generalize bV (nd0 1 0)=L at hlf hR
 have c1:=iP (G:=G) s1 EG (by omega)
 have c2:=iP (G:=G) s1 Fe (by omega)
 have c3:=iP (G:=G) s1 bIf (by omega)
 have nn:=(SS.next s1).nest
 have ln:=(SS.next s1).len
 have c4:=Fu (G:=G) hex hc s1.next t.pos (by omega) (nn.trans n1)
 have c5:=EC (G:=G) hex hc s1.next t.pos (by omega) (nn.trans n1)
 have c6:=CA (G:=G) hex (Cm hex (Bt hex (Co hex (BP hex (CZ hex hc))))) s1 l1 n1
 have g4:=(qR hex s1.next t.pos).ss.nest
 have g5:=(vV hex s1.next t.pos).ss.nest
 have g6:=(rE hex s1).ss.nest
 generalize pV ex s1.next t.pos=R4 at c4 g4 hR
 generalize ifS ex s1.next t.pos=R5 at c5 g5 hR
 generalize rP ex s1=R6 at c6 g6 hR
 have c7:=j3 (G:=G) s1.next 2 (by omega)
 have g7:=SS.of s1.next 2
 obtain ⟨nm,s2,e2⟩:∃ nm s2,s1.next.of 2=(nm,s2):=⟨_,_,rfl⟩
 rw [e2] at c7 g7
 simp only [e2] at hR
 simp only at c7 g7
 have l2:=g7.len
 have n2:=g7.nest
 have c8:=eE (G:=G) s2 7 bTo (by omega) (by decide)
 have g8:=SS.must s2 7 bTo
 generalize s2.must 7 bTo=s3 at c8 g8 hR
 have l3:=g8.len
 have n3:=g8.nest
 have c9:=hc s3 (by omega) (by rw [n3,n2,nn,n1])
 have g9:=hex s3
 obtain ⟨b,s4,e4⟩:∃ b s4,ex s3=(b,s4):=⟨_,_,rfl⟩
 rw [e4] at c9 g9
 simp only [e4] at hR
 have n4:=g9.ss.nest
 have z4:=g9.sz
 simp only at n4 z4
 have h4:=iO (G:=G) { nd0 5 t.pos with name:=nm } [b] rfl (by simp) (by simp only [aV,List.map_cons,List.map_nil,List.sum_cons,List.sum_nil];omega)
  (fun l h=>by rw [List.mem_singleton.1 h];exact g9.tr.kids.2)
  (fun l h=>by rw [List.mem_singleton.1 h];exact g9.wd.mono (by omega))
 generalize ax { nd0 5 t.pos with name:=nm } [b]=J at h4 hR
 unfold exD at hlf c4 c5 c6 c9 h4
 unfold RO TO ae
 refine vH Tryz.func53 rfl (by decide +kernel) (by simp [Tryz.ntmps53]) fun B0 hB0=>?_
 refine bJ (aH fun E=>?_)
 simp only [go_sem]
 refine bJ (aH fun E=>?_)
 simp only [go_sem]
 refine ab E [.at [101] 0] (TO s.l s.fin) [101] (hpk) rfl rfl ⟨by simp only [go_sem],by first | (rw [aa];decide) | (simp only [go_sem]<;>(try rw [aa])<;>decide)⟩ rfl (by unfold TO ae;simp only [go_sem]) (by unfold TO;simp only [go_sem]) ?_
 rintro _ _ ⟨rfl,rfl⟩
 unfold TO ae
 simp only [go_sem]
 refine bJ (aH fun E=>?_)
 simp only [go_sem]
 refine aj E (fun h=>absurd h (by omega)) (fun h=>?_)<;>simp only [go_sem]
 refine bJ (aH fun E=>?_)
 simp only [go_sem]
 refine ab E [.at [100] 0] (RO s) [100,101] (eC s) rfl rfl ⟨by simp only [go_sem],by first | (rw [aa];decide) | (simp only [go_sem]<;>(try rw [aa])<;>decide)⟩ rfl (by unfold RO TO ae;simp only [go_sem]) (by unfold RO TO;simp only [go_sem]) ?_
 rintro _ _ ⟨rfl,rfl⟩
 unfold RO TO ae
 simp only [go_sem]
 refine aI E (fun g=>?_) (fun g=>?_)<;>simp only [go_sem]
 ·rw [if_pos (by simpa using g)] at hR
  refine ag E hlf rfl rfl (by simp) ?_
  rintro _ rfl
  simp only [go_sem]
  subst hR
  refine vg (.inl rfl) hB0 ?_
  simp only [go_sem]
  refine ⟨_,_,[100,101],id,⟨rfl,rfl⟩,?_⟩
  simp only [go_sem]
  all_goals first | rfl | exact ⟨rfl,rfl⟩ | exact ⟨rfl,rfl,rfl⟩
 rw [if_neg (by simpa using g)] at hR
 refine bJ (aH fun E=>?_)
 simp only [go_sem]
 rw [ao (n:=(s.nest:Int)+1) ⟨by omega,by omega⟩]
 rw [show s.err=s1.err by rw [hs1],show s.pos=s1.pos by rw [hs1],show s.l=s1.l by rw [hs1],show s.fin=s1.fin by rw [hs1],show (s.nest:Int)+1=(s1.nest:Int) by rw [n1,← hN];rfl]
 refine bJ (rn ?_)
 refine Cu rfl ?_
 simp only [go_sem]
 refine CF [[1]] rfl rfl (by intro p hp;rw [List.mem_singleton.1 hp];exact ⟨_,rfl⟩) ?_
 refine xD ?_
 refine bJ (aH fun E=>?_)
 simp only [go_sem]
 refine ab E [.at [100] 0,.d (.str EG)] (RO s1) [100,101] (c1) rfl rfl ⟨by simp only [go_sem],by first | (rw [aa];decide) | (simp only [go_sem]<;>(try rw [aa])<;>decide)⟩ rfl (by unfold RO TO ae;simp only [go_sem]) (by unfold RO TO;simp only [go_sem]) ?_
 rintro _ _ ⟨rfl,rfl⟩
 unfold RO TO ae
 simp only [go_sem]
 refine aI E (fun h=>?_) (fun h=>?_)<;>simp only [go_sem]
 ·rw [if_pos h] at hR
  rw [cO h]
  refine ab E [.at [100] 0,.d (i64 2)] (RO s1.next) [100,101] (c7) rfl rfl ⟨by simp only [go_sem],by first | (rw [aa];decide) | (simp only [go_sem]<;>(try rw [aa])<;>decide)⟩ rfl (by unfold RO TO ae;simp only [go_sem]) (by unfold RO TO;simp only [go_sem]) ?_
  rintro _ _ ⟨rfl,rfl⟩
  unfold RO TO ae
  simp only [go_sem]
  refine ab E [.at [100] 0,.d (i64 7),.d (.str bTo)] (RO s2) [100,101] (c8) rfl rfl ⟨by simp only [go_sem],by first | (rw [aa];decide) | (simp only [go_sem]<;>(try rw [aa])<;>decide)⟩ rfl (by unfold RO TO ae;simp only [go_sem]) (by unfold RO TO;simp only [go_sem]) ?_
  rintro _ _ ⟨rfl,rfl⟩
  unfold RO TO ae
  simp only [go_sem]
  refine ah mixed E fun X=>?_
  simp only [go_sem]
  refine aR X [.at [100] 0] (RO s3) [100,101] _ _ c9 rfl rfl ⟨by simp only [go_sem],by rw [aa];decide⟩ rfl (by unfold RO TO ae;simp only [go_sem]) (by unfold RO TO;simp only [go_sem]) (by unfold RO TO;simp only [go_sem]) ?_
  unfold RO TO ae
  simp only [go_sem]
  refine bX X 45 [45] (some 1) [.agg [.sl (some 9) (b.map enD)]] h4 (fun _=>rfl) rfl rfl rfl (by simp) rfl (by simp only [go_sem]) ?_
  simp only [go_sem]
  refine ⟨by decide +kernel,?_⟩
  subst hR
  refine pf (ns:=[[1]]) (.inl rfl) hB0 Tryz.func94 rfl (by decide +kernel) (by simp [Tryz.ntmps94]) (by intro p hp;rw [List.mem_singleton.1 hp];simp only [go_sem]) (veil fun E=>?_)
  simp only [go_sem]
  rw [hP]
  simp only [go_sem]
  rw [ao (n:=(s4.nest:Int)-1) ⟨by omega,by omega⟩]
  refine ⟨oz (fY (by simp only [go_sem])),?_⟩
  simp only [hP]
  simp only [go_sem]
  refine ⟨_,_,[100,101],id,⟨rfl,rfl⟩,?_⟩
  simp only [go_sem]
  have hq:(s4.nest:Int)-1=(s.nest:Int):=by omega
  rw [hq]
  exact ⟨rfl,rfl⟩
 rw [if_neg (by rw [h];decide)] at hR
 rw [ej h]
 refine ab E [.at [100] 0,.d (.str Fe)] (RO s1) [100,101] (c2) rfl rfl ⟨by simp only [go_sem],by first | (rw [aa];decide) | (simp only [go_sem]<;>(try rw [aa])<;>decide)⟩ rfl (by unfold RO TO ae;simp only [go_sem]) (by unfold RO TO;simp only [go_sem]) ?_
 rintro _ _ ⟨rfl,rfl⟩
 unfold RO TO ae
 simp only [go_sem]
 refine aI E (fun h=>?_) (fun h=>?_)<;>simp only [go_sem]
 ·rw [if_pos h] at hR
  rw [cO h]
  refine ab E [.at [100] 0,.d (i64 t.pos)] (RO s1.next) [100,101] (c4) rfl rfl ⟨by simp only [go_sem],by first | (rw [aa];decide) | (simp only [go_sem]<;>(try rw [aa])<;>decide)⟩ rfl (by unfold RO TO ae;simp only [go_sem]) (by unfold RO TO;simp only [go_sem]) ?_
  rintro _ _ ⟨rfl,rfl⟩
  unfold RO TO ae
  simp only [go_sem]
  subst hR
  refine pf (ns:=[[1]]) (.inl rfl) hB0 Tryz.func94 rfl (by decide +kernel) (by simp [Tryz.ntmps94]) (by intro p hp;rw [List.mem_singleton.1 hp];simp only [go_sem]) (veil fun E=>?_)
  simp only [go_sem]
  rw [hP]
  simp only [go_sem]
  rw [ao (n:=(R4.2.nest:Int)-1) ⟨by omega,by omega⟩]
  refine ⟨oz (fY (by simp only [go_sem])),?_⟩
  simp only [hP]
  simp only [go_sem]
  refine ⟨_,_,[100,101],id,⟨rfl,rfl⟩,?_⟩
  simp only [go_sem]
  have hq:(R4.2.nest:Int)-1=(s.nest:Int):=by omega
  rw [hq]
  exact ⟨rfl,rfl⟩
 rw [if_neg (by rw [h];decide)] at hR
 rw [ej h]
 refine ab E [.at [100] 0,.d (.str bIf)] (RO s1) [100,101] (c3) rfl rfl ⟨by simp only [go_sem],by first | (rw [aa];decide) | (simp only [go_sem]<;>(try rw [aa])<;>decide)⟩ rfl (by unfold RO TO ae;simp only [go_sem]) (by unfold RO TO;simp only [go_sem]) ?_
 rintro _ _ ⟨rfl,rfl⟩
 unfold RO TO ae
 simp only [go_sem]
 refine aI E (fun h=>?_) (fun h=>?_)<;>simp only [go_sem]
 ·rw [if_pos h] at hR
  rw [cO h]
  refine ab E [.at [100] 0,.d (i64 t.pos)] (RO s1.next) [100,101] (c5) rfl rfl ⟨by simp only [go_sem],by first | (rw [aa];decide) | (simp only [go_sem]<;>(try rw [aa])<;>decide)⟩ rfl (by unfold RO TO ae;simp only [go_sem]) (by unfold RO TO;simp only [go_sem]) ?_
  rintro _ _ ⟨rfl,rfl⟩
  unfold RO TO ae
  simp only [go_sem]
  subst hR
  refine pf (ns:=[[1]]) (.inl rfl) hB0 Tryz.func94 rfl (by decide +kernel) (by simp [Tryz.ntmps94]) (by intro p hp;rw [List.mem_singleton.1 hp];simp only [go_sem]) (veil fun E=>?_)
  simp only [go_sem]
  rw [hP]
  simp only [go_sem]
  rw [ao (n:=(R5.2.nest:Int)-1) ⟨by omega,by omega⟩]
  refine ⟨oz (fY (by simp only [go_sem])),?_⟩
  simp only [hP]
  simp only [go_sem]
  refine ⟨_,_,[100,101],id,⟨rfl,rfl⟩,?_⟩
  simp only [go_sem]
  have hq:(R5.2.nest:Int)-1=(s.nest:Int):=by omega
  rw [hq]
  exact ⟨rfl,rfl⟩
 rw [if_neg (by rw [h];decide)] at hR
 rw [ej h]
 refine aH fun E=>?_
 simp only [go_sem]
 refine ab E [.at [100] 0] (RO s1) [100,101] (c6) rfl rfl ⟨by simp only [go_sem],by first | (rw [aa];decide) | (simp only [go_sem]<;>(try rw [aa])<;>decide)⟩ rfl (by unfold RO TO ae;simp only [go_sem]) (by unfold RO TO;simp only [go_sem]) ?_
 rintro _ _ ⟨rfl,rfl⟩
 unfold RO TO ae
 simp only [go_sem]
 subst hR
 refine pf (ns:=[[1]]) (.inl rfl) hB0 Tryz.func94 rfl (by decide +kernel) (by simp [Tryz.ntmps94]) (by intro p hp;rw [List.mem_singleton.1 hp];simp only [go_sem]) (veil fun E=>?_)
 simp only [go_sem]
 rw [hP]
 simp only [go_sem]
 rw [ao (n:=(R6.2.nest:Int)-1) ⟨by omega,by omega⟩]
 refine ⟨oz (fY (by simp only [go_sem])),?_⟩
 simp only [hP]
 simp only [go_sem]
 refine ⟨_,_,[100,101],id,⟨rfl,rfl⟩,?_⟩
 simp only [go_sem]
 have hq:(R6.2.nest:Int)-1=(s.nest:Int):=by omega
 rw [hq]
 exact ⟨rfl,rfl⟩
theorem Aa {G}:∀ (m N:Nat),N+m=100→Reads 53 G N (gz m)
 | 0,N,h=>by
   obtain rfl:N=100:=by omega
   exact yI
 | m+1,N,h=>Af (by omega) (im m) (Aa m (N+1) (by omega))
end Go.Proofs.YtejpnabbmgpmaaaGreat

namespace Go.Proofs.YtejpnabbmgpmaaaGreat
open Go.Ab
def qk (s:PS) (ns:List EN):List EN × Int × Int :=
 if s.err≠0 then ([],s.pos,s.err) else if ns.any (fun n=>decide (1048576<n.pos)) then ([],0,7) else if jc ns≠0 then ([],0,jc ns) else (ns,0,0)
def pU (l:List Tok) (n:Int):PS:=⟨l,n,0,0,0⟩
def sr (s:PS):PS:=if s.l.isEmpty then s else s.wrong
def dc (s:List UInt8):List EN × Int × Int :=
 if (dM s).2.2≠0 then ([],(dM s).2.1,(dM s).2.2)
 else qk (sr (gz 100 (pU (dM s).1 (dM s).2.1)).2) (gz 100 (pU (dM s).1 (dM s).2.1)).1
theorem SS.done (s:PS):SS s (sr s):=by
 unfold sr
 split
 ·exact SS.refl s
 ·exact SS.wrong s
end Go.Proofs.YtejpnabbmgpmaaaGreat

namespace Go.Proofs.YtejpnabbmgpmaaaGreat
open Go.Ab
def Fm (B:Nat) (f:EF):Prop:=f.nm.length≤B∧f.var.length≤B
def Nm (B:Nat) (n:EN):Prop:=n.name.length≤B∧n.s.length≤B∧∀ f∈n.l,Fm B f
def Sm (B:Nat) (ns:List EN):Prop:=∀ n∈ns,Nm B n
def Tm (B:Nat) (s:PS):Prop:=∀ t∈s.l,t.s.length≤B
section
variable {B:Nat}
theorem rV (ks:List Int) (o:Nat):∀ (l:List EF) (i:Nat),(∀ f∈l,Fm B f)→∀ f∈aO ks o l i,Fm B f
 | [],_,_,f,hf=>by simp [aO] at hf
 | g::r,i,h,f,hf=>by
   rw [aO] at hf
   rcases List.mem_cons.1 hf with rfl | hf
   ·have:=h g List.mem_cons_self
    split<;>exact this
   ·exact rV ks o r (i+1) (fun x hx=>h x (List.mem_cons_of_mem _ hx)) f hf
theorem Nm.with {n:EN} (h:Nm B n) (ks:List Int):Nm B (aK n ks):=by
 refine ⟨h.1,h.2.1,fun f hf=>?_⟩
 have hf:f∈(if aU n.k then aO ks (aP n.k) n.l 0 else []):=hf
 split at hf
 ·exact rV _ _ _ _ h.2.2 f hf
 ·cases hf
theorem ye:∀ (ls:List (List EN)) (acc:List EN) (rs:List Int),(∀ l∈ls,Sm B l)→Sm B acc→Sm B (bC ls acc rs).1
 | [],_,_,_,h=>h
 | l::r,acc,rs,hl,h=>by
   refine ye r _ _ (fun x hx=>hl x (List.mem_cons_of_mem _ hx)) fun n hn=>?_
   rcases List.mem_append.1 hn with hn | hn
   ·exact h n hn
   ·obtain ⟨m,hm,rfl⟩:=List.mem_map.1 hn
    exact (hl l List.mem_cons_self m hm).with _
theorem cR {n:EN} {ls:List (List EN)} (hn:Nm B n) (hl:∀ l∈ls,Sm B l):Sm B (ax n ls):=by
 intro m hm
 rcases List.mem_append.1 hm with hm | hm
 ·exact ye ls [] [] hl (fun _ h=>by cases h) m hm
 ·rw [List.mem_singleton.1 hm];exact hn.with _
theorem mj (k p:Int):Nm B (nd0 k p):=⟨Nat.zero_le _,Nat.zero_le _,fun _ h=>by cases h⟩
theorem gk {n:EN} (hn:Nm B n):Sm B (bV n):=cR hn fun _ h=>by cases h
theorem uT:Sm B noE:=gk (mj 1 0)
theorem Tm.ss {s r:PS} (h:SS s r) (g:Tm B s):Tm B r:=by
 obtain ⟨k,hk⟩:=h.suf
 intro t ht
 rw [hk] at ht
 exact g t (List.mem_of_mem_drop ht)
theorem Tm.peek {s:PS} (g:Tm B s):s.peek.s.length≤B:=by
 unfold PS.peek
 split
 ·exact Nat.zero_le _
 ·rename_i t r e
  exact g t (by rw [e];exact List.mem_cons_self)
theorem Tm.of {s:PS} (g:Tm B s) (k:Int):(s.of k).1.length≤B:=by
 unfold PS.of
 split
 ·exact g.peek
 ·exact Nat.zero_le _
variable {ex:PS→PR} (hex:∀ s,GP 1 s (ex s)) (hx:∀ s,Tm B s→Sm B (ex s).1)
include hex hx
omit hex hx in
theorem yy {s:PS} (g:Tm B s) (l:List EF):Fm B (fN s l).1:=⟨g.of 2,Nat.zero_le _⟩
omit hex hx in
theorem wK {s:PS} (g:Tm B s) (l:List EF):Fm B (ef s l).1 :=
 ⟨g.of 3,Tm.of (g.ss (SS.partp (s:=s) (SS.of s 3) s.peek l fun _ h=>jG h)) 2⟩
theorem l9 (between:List UInt8) (part:PS→List EF→EF × PS) (hp:∀ s l,SS s (part s l).2) (hf:∀ s l,Tm B s→Fm B (part s l).1):∀ (m:Nat) (s:PS) (l:List EF) (ks:List (List EN)),Tm B s→(∀ f∈l,Fm B f)→(∀ k∈ks,Sm B k) →
  (∀ f∈(bd ex between part m s l ks).1,Fm B f)∧(∀ k∈(bd ex between part m s l ks).2.1,Sm B k)
 | 0,s,l,ks,_,h1,h2=>⟨h1,h2⟩
 | m+1,s,l,ks,g,h1,h2=>by
   have g1:=g.ss (hp s l)
   have g2:=g1.ss (hex (part s l).2).ss
   have a1:∀ f∈l++[(part s l).1],Fm B f:=fun f h=>by
    rcases List.mem_append.1 h with h | h
    ·exact h1 f h
    ·rw [List.mem_singleton.1 h];exact hf s l g
   have a2:∀ k∈ks++[(ex (part s l).2).1],Sm B k:=fun k h=>by
    rcases List.mem_append.1 h with h | h
    ·exact h2 k h
    ·rw [List.mem_singleton.1 h];exact hx _ g1
   unfold bd
   simp only
   split
   ·exact l9 between part hp hf m _ _ _ (g2.ss (SS.next _)) a1 a2
   ·exact ⟨a1,a2⟩
theorem xR (s:PS) (g:Tm B s) (pos:Int):Sm B (dV ex s pos).1:=by
 unfold dV
 split
 ·exact gk (mj 11 pos)
 ·have h:=l9 hex hx [44] fN SS.field (fun s l g=>yy g l) s.l.length.succ s [] [] g (fun _ h=>by cases h) (fun _ h=>by cases h)
  exact cR ⟨Nat.zero_le _,Nat.zero_le _,h.1⟩ h.2
theorem xU (s:PS) (g:Tm B s) (pos:Int):Sm B (gf ex s pos).1:=by
 unfold gf
 have g1:=(g.ss (hex s).ss).ss (SS.must (ex s).2 1 bOf)
 simp only
 have h:=l9 hex hx [124] ef SS.branch (fun s l g=>wK g l) ((ex s).2.must 1 bOf).l.length.succ _ [] [] g1 (fun _ h=>by cases h) (fun _ h=>by cases h)
 refine cR ⟨Nat.zero_le _,Nat.zero_le _,h.1⟩ fun l hl=>?_
 rcases List.mem_cons.1 hl with rfl | hl
 ·exact hx s g
 ·exact h.2 l hl
theorem Dc (s:PS) (g:Tm B s):Sm B (cW ex s).1:=by
 have gn:=g.ss (SS.next s)
 unfold cW
 simp only
 repeat' split
 ·exact uT
 ·exact gk ⟨Nat.zero_le _,Nat.zero_le _,fun _ h=>by cases h⟩
 ·exact gk ⟨Nat.zero_le _,g.peek,fun _ h=>by cases h⟩
 ·exact gk ⟨g.peek,Nat.zero_le _,fun _ h=>by cases h⟩
 ·exact gk ⟨Nat.zero_le _,Nat.zero_le _,fun _ h=>by cases h⟩
 ·exact gk (mj _ _)
 ·exact hx _ gn
 ·exact xR hex hx _ gn _
 ·exact xU hex hx _ gn _
 ·exact uT
omit hex hx in
theorem vd:∀ (m:Nat) (a:List EN) (s:PS),Sm B a→Tm B s→Sm B (fc m a s).1
 | 0,_,_,h,_=>h
 | m+1,a,s,h,g=>by
   unfold fc
   split
   ·exact vd m _ _ (cR ⟨(g.ss (SS.next s)).of 2,Nat.zero_le _,fun _ h=>by cases h⟩ fun l hl=>by rw [List.mem_singleton.1 hl];exact h) ((g.ss (SS.next s)).ss (SS.of _ 2))
   ·exact h
theorem qo (s:PS) (g:Tm B s):Sm B (cV ex s).1:=vd _ _ _ (Dc hex hx s g) (g.ss (ky hex s).1.ss)
theorem u6:∀ (m:Nat) (a:List EN) (s:PS),Sm B a→Tm B s→Sm B (gy ex m a s).1
 | 0,_,_,h,_=>h
 | m+1,a,s,h,g=>by
   unfold gy
   split
   ·refine u6 m _ _ (cR (mj _ _) fun l hl=>?_) (g.ss (eh hex s).1.ss)
    rcases List.mem_cons.1 hl with rfl | hl
    ·exact h
    ·rw [List.mem_singleton.1 hl];exact qo hex hx s g
   ·exact h
theorem AP (s:PS) (g:Tm B s):Sm B (jW ex s).1:=by
 unfold jW
 simp only
 split
 ·exact cR ⟨g.peek,Nat.zero_le _,fun _ h=>by cases h⟩ fun l hl=>by rw [List.mem_singleton.1 hl];exact qo hex hx _ (g.ss (SS.next s))
 ·exact u6 hex hx _ _ _ (qo hex hx s g) (g.ss (eh hex s).1.ss)
omit hex hx in
theorem tJ (ops:List (List UInt8 × Int)) (sub:PS→PR) (h1:∀ s,SS s (sub s).2) (h2:∀ s,Tm B s→Sm B (sub s).1):∀ (m:Nat) (a:List EN) (s:PS),Sm B a→Tm B s→Sm B (ja ops sub m a s).1
 | 0,_,_,h,_=>h
 | m+1,a,s,h,g=>by
   unfold ja
   split
   ·have gn:=g.ss (SS.next s)
    refine tJ ops sub h1 h2 m _ _ (cR ⟨Nat.zero_le _,Nat.zero_le _,fun _ h=>by cases h⟩ fun l hl=>?_) (gn.ss (h1 _))
    rcases List.mem_cons.1 hl with rfl | hl
    ·exact h
    ·rw [List.mem_singleton.1 hl];exact h2 _ gn
   ·exact h
theorem v5 (s:PS) (g:Tm B s):Sm B (iN ex s).1:=tJ _ _ (fun s=>(gI hex s).ss) (AP hex hx) _ _ _ (AP hex hx s g) (g.ss (gI hex s).ss)
theorem tK (s:PS) (g:Tm B s):Sm B (rG ex s).1:=tJ _ _ (fun s=>(eX hex s).ss) (v5 hex hx) _ _ _ (v5 hex hx s g) (g.ss (eX hex s).ss)
theorem Fc (s:PS) (g:Tm B s):Sm B (rP ex s).1:=by
 unfold rP
 simp only
 split
 ·refine cR ⟨Nat.zero_le _,Nat.zero_le _,fun _ h=>by cases h⟩ fun l hl=>?_
  rcases List.mem_cons.1 hl with rfl | hl
  ·exact tK hex hx s g
  ·rw [List.mem_singleton.1 hl];exact tK hex hx _ ((g.ss (gW hex s).ss).ss (SS.next _))
 ·exact tK hex hx s g
theorem Em (s:PS) (g:Tm B s) (pos:Int):Sm B (pV ex s pos).1:=by
 unfold pV
 simp only
 obtain ⟨k,hk⟩:∃ k:Int,k=if s.sees 1 jC=true then 8 else 7:=⟨_,rfl⟩
 rw [← hk]
 have g1:=g.ss (SS.may s 1 jC)
 have g2:=g1.ss (SS.of _ 2)
 have g3:=g2.ss (SS.must _ 7 [61])
 have g4:=g3.ss (hex _).ss
 refine cR ⟨g1.of 2,Nat.zero_le _,fun _ h=>by cases h⟩ fun l hl=>?_
 rcases List.mem_cons.1 hl with rfl | hl
 ·exact hx _ g3
 ·rw [List.mem_singleton.1 hl]
  refine hx _ (Tm.ss (SS.must _ 1 bIn) ?_)
  split
  ·intro t ht
   rw [nw] at ht
   exact g4 t ht
  ·exact g4
theorem Gk (s:PS) (g:Tm B s) (pos:Int):Sm B (ifS ex s pos).1:=by
 unfold ifS
 simp only
 have g1:=(g.ss (hex _).ss).ss (SS.must _ 1 oG)
 have g2:=(g1.ss (hex _).ss).ss (SS.must _ 1 oF)
 refine cR (mj _ _) fun l hl=>?_
 simp only [List.mem_cons,List.not_mem_nil,or_false] at hl
 rcases hl with rfl | rfl | rfl
 ·exact hx _ g
 ·exact hx _ g1
 ·exact hx _ g2
theorem CQ (s:PS) (g:Tm B s):Sm B (mL ex s).1:=by
 have gn:=g.ss (SS.next s)
 unfold mL
 simp only
 repeat' split
 ·exact cR ⟨gn.of 2,Nat.zero_le _,fun _ h=>by cases h⟩ fun l hl=>by rw [List.mem_singleton.1 hl];exact hx _ ((gn.ss (SS.of _ 2)).ss (SS.must _ 7 bTo))
 ·exact Em hex hx _ gn _
 ·exact Gk hex hx _ gn _
 ·exact Fc hex hx s g
end
theorem vN {B:Nat}:∀ (m:Nat) (s:PS),Tm B s→Sm B (gz m s).1
 | 0,s,_=>uT
 | m+1,s,g=>by
   unfold gz
   split
   ·exact uT
   ·exact CQ (im m) (vN m) _ g
theorem o6:∀ (m:Nat) (r:List UInt8) (i:Nat) (acc:List UInt8),(dG m r i acc).1.length≤200
 | 0,_,_,_=>Nat.zero_le _
 | _+1,[],_,_=>Nat.zero_le _
 | m+1,c::r,i,acc=>by
   unfold dG
   split
   ·split
    ·exact Nat.zero_le _
    ·simp only;omega
   split
   ·split
    ·exact Nat.zero_le _
    ·exact o6 m _ _ _
   split
   ·exact o6 m _ _ _
   ·exact Nat.zero_le _
theorem DY (s:List UInt8):(dm s).t.s.length≤200:=by
 unfold dm
 split
 ·unfold mE
  repeat' split
  ·exact Nat.zero_le _
  all_goals (show (s.take _).length≤_;rw [List.length_take];omega)
 split
 ·unfold rf
  repeat' split
  ·exact Nat.zero_le _
  ·exact Nat.zero_le _
  ·show ((s.drop 1).take _).length≤_;rw [List.length_take];omega
 split
 ·exact Nat.zero_le _
 split
 ·unfold qP cI
  repeat' split
  ·exact Nat.zero_le _
  ·exact o6 _ _ _ _
  ·exact Nat.zero_le _
 ·unfold mA
  repeat' split
  ·show (s.take _).length≤_;rw [List.length_take];omega
  ·exact Nat.zero_le _
  ·show (s.take _).length≤_;rw [List.length_take];omega
theorem xX:∀ (m:Nat) (s:List UInt8) (a:Nat),∀ q∈dC m s a,q.2.t.s.length≤200
 | 0,_,_,_,h=>by simp [dC] at h
 | m+1,s,a,q,h=>by
   unfold dC at h
   split at h
   ·cases h
   split at h
   ·rw [List.mem_singleton.1 h];exact DY _
   ·rcases List.mem_cons.1 h with rfl | h
    ·exact DY _
    ·exact xX m _ _ q h
theorem F1 (s:List UInt8):∀ t∈(dM s).1,t.s.length≤200:=by
 unfold dM
 split
 ·intro _ h;cases h
 ·intro t ht
  obtain ⟨q,hq,rfl⟩:=List.mem_map.1 ht
  exact xX _ _ _ q hq
end Go.Proofs.YtejpnabbmgpmaaaGreat

namespace Go.Proofs.YtejpnabbmgpmaaaGreat
open Go.Ab
def fk (q:List EN × Int × Int):AV:=.tup [.d (if q.2.2=0 then exD q.1 else .agg [.nils]),.d (i64 q.2.1),.d (i64 q.2.2)]
theorem Ez {G} (s:PS) (ns:List EN) (hN:ns.length≤1000000) (hs:∀ n∈ns,gL BIG n):HCall Tryz.prog G 56 [.at [100] 0,.d (exD ns)] (RO s) [100,101] (fun r hp'=>r=fk (qk s ns)∧hp'=RO s):=by
 generalize hR:qk s ns=R
 unfold qk at hR
 have c1:=CE (G:=G) ns (fun n=>decide (1048576<n.pos)) 102 [] hN (fun x _=>Cn x)
 have c2:=tB (G:=G) ns hs hN
 generalize (ns.any fun n=>decide (1048576<n.pos))=b at c1 hR
 generalize jc ns=m at c2 hR
 have c3:=HP.clo (args:=[.d (.sl (some 9) (ns.map enD)),.clo 102 []]) rfl (fun i x y hx hy=>by
  rcases i with _ | _ | i
  ·cases hx;cases hy;exact .inl rfl
  ·cases hx;cases hy;exact .inr ⟨102,rfl,rfl⟩
  ·cases hx) c1
 unfold exD at *
 unfold RO TO ae
 refine ai Tryz.func56 rfl (by decide +kernel) (by simp [Tryz.ntmps56]) (veil fun E=>?_)
 simp only [go_sem]
 refine ab E [.at [100] 0] (RO s) [100,101] (eC s) rfl rfl ⟨by simp only [go_sem],by first | (rw [aa];decide) | (simp only [go_sem]<;>(try rw [aa])<;>decide)⟩ rfl (by unfold RO TO ae;simp only [go_sem]) (by unfold RO TO;simp only [go_sem]) ?_
 rintro _ _ ⟨rfl,rfl⟩
 unfold RO TO ae
 simp only [go_sem]
 refine aI E (fun h=>?_) (fun h=>?_)<;>simp only [go_sem]
 ·have h':¬ s.err=0:=by simpa using h
  rw [if_pos h'] at hR
  refine ah mixed E fun X=>?_
  simp only [go_sem]
  refine aA X (d:=13) [100] 0 none [.at [101] 0,.d (i64 s.err),.d (i64 s.pos),.d (i64 s.nest)] (by simp only [go_sem]) rfl rfl ?_
  simp only [go_sem]
  refine aA X (d:=17) [100] 0 none [.at [101] 0,.d (i64 s.err),.d (i64 s.pos),.d (i64 s.nest)] (by simp only [go_sem]) rfl rfl ?_
  simp only [go_sem]
  refine ⟨by decide +kernel,?_⟩
  subst hR
  have he:fk ([],s.pos,s.err)=.tup [.d (.agg [.nils]),.d (i64 s.pos),.d (i64 s.err)]:=by unfold fk;rw [if_neg h']
  rw [he]
  refine ⟨_,_,[100,101],id,⟨rfl,rfl⟩,?_⟩
  simp only [go_sem]
 rw [if_neg (by simpa using h)] at hR
 refine ab E [.d (.sl (some 9) (ns.map enD)),.clo 102 []] [] [] c3 rfl rfl ⟨by simp only [go_sem],by rw [aa];decide⟩ rfl (by simp only [go_sem]) (by simp only [go_sem]) ?_
 rintro _ _ ⟨rfl,_,rfl⟩
 simp only [go_sem]
 refine aI E (fun h=>?_) (fun h=>?_)<;>simp only [go_sem]
 ·rw [if_pos h] at hR
  subst hR
  have he:fk ([],0,7)=.tup [.d (.agg [.nils]),.d (i64 0),.d (i64 7)]:=by unfold fk;rw [if_neg (by decide)]
  rw [he]
  refine ⟨_,_,[100,101],id,⟨rfl,rfl⟩,?_⟩
  simp only [go_sem]
 rw [if_neg (by rw [h];decide)] at hR
 refine ag E c2 rfl rfl (by simp) ?_
 rintro _ rfl
 simp only [go_sem]
 refine aI E (fun h=>?_) (fun h=>?_)<;>simp only [go_sem]
 ·have h':¬ m=0:=by simpa using h
  rw [if_pos h'] at hR
  subst hR
  have he:fk ([],0,m)=.tup [.d (.agg [.nils]),.d (i64 0),.d (i64 m)]:=by unfold fk;rw [if_neg h']
  rw [he]
  refine ⟨_,_,[100,101],id,⟨rfl,rfl⟩,?_⟩
  simp only [go_sem]
 ·have h':m=0:=by simpa using h
  rw [if_neg (by simpa using h')] at hR
  subst hR
  have he:fk (ns,0,0)=.tup [.d (.agg [.sl (some 9) (ns.map enD)]),.d (i64 0),.d (i64 0)]:=by unfold fk;rw [if_pos rfl];rfl
  rw [he]
  refine ⟨_,_,[100,101],id,⟨rfl,rfl⟩,?_⟩
  simp only [go_sem]
theorem Ck {G} (l:List Tok) (fin:Int) (hl:l.length≤1000000):HCall Tryz.prog G 52 [.d (ae l),.d (i64 fin)] [] [] (fun r hp'=>r=.at [101] 0∧hp'=[([101],.box [.vw [102] 0 l.length,.d (i64 fin)]),([102],.arr (some 4) (l.map fU))]):=by
 unfold ae
 refine ai Tryz.func52 rfl (by decide +kernel) (by simp [Tryz.ntmps52]) (veil fun E=>?_)
 simp only [go_sem]
 refine ⟨by omega,?_⟩
 refine ⟨_,_,[101,102],tau [([101],[9]),([102],[6])],⟨rfl,rfl⟩,?_⟩
 simp only [go_sem]
 all_goals rfl
theorem D2 {G} (l:List Tok) (fin:Int) (hl:l.length≤1000000):HCall Tryz.prog G 52 [.d (ae l),.d (i64 fin)] [] [] (fun r hp'=>r=.at [101] 0∧hp'=TO l fin) :=
 HCall.fA (Ck l fin hl) [102] (by
  rintro r hp' ⟨rfl,rfl⟩
  refine ⟨some 4,l.map fU,by simp only [go_sem],by simp only [go_sem],?_⟩
  unfold TO ae
  simp only [go_sem])
theorem Bq {s:PS} {ns:List EN} {r:PS} (h:GP 1 s (ns,r)) (hl:s.l.length≤100000) (hn:Sm 200 ns):ns.length≤1000000∧∀ n∈ns,gL BIG n:=by
 have h1:=h.sz
 have h2:=h.wd
 simp only at h1
 refine ⟨by omega,fun n hm=>?_⟩
 obtain ⟨a,b,c⟩:=hn n hm
 have:=h2 n hm
 simp only at this
 exact ⟨by unfold BIG;omega,by unfold BIG;omega,by omega,fun f hf=>⟨by have:=(c f hf).1;unfold BIG;omega,by have:=(c f hf).2;unfold BIG;omega⟩⟩
set_option maxHeartbeats 1000000 in
theorem ES {G} (s:List UInt8) (hl:s.length≤100000):HP Tryz.prog G 15 [.str s] (fun r=>r=fk (dc s)):=by
 generalize hR:dc s=R
 unfold dc at hR
 obtain ⟨hl1,hl2,hl3,hl4⟩:=Ea s
 have hls:=F1 s
 cases hb:ju (aC s) with
 | some q =>
   obtain ⟨i,e⟩:=q
   have c1:=Bm (G:=G) s (by omega) hb
   have hne:=pI hb
   have hlx:dM s=([],i,e):=by unfold dM;rw [hb]
   rw [hlx,if_pos hne] at hR
   simp only at hR hne
   have he:fk R=.tup [.d (.agg [.nils]),.d (i64 i),.d (i64 e)]:=by rw [← hR];unfold fk;rw [if_neg hne]
   rw [he]
   refine bP Tryz.func15 rfl (by decide +kernel) (by simp [Tryz.ntmps15]) (veil fun E=>?_)
   simp only [go_sem]
   refine ag E c1 rfl rfl (by simp) ?_
   rintro _ rfl
   simp only [go_sem]
   refine aI E (fun h=>?_) (fun h=>absurd (by simpa using h) hne)<;>simp only [go_sem]
   refine ⟨[],?_⟩
   simp only [go_sem]
 | none =>
   have c1:=Fx (G:=G) s (by omega) hb
   have hz:(dM s).2.2=0:=by unfold dM;rw [hb]
   rw [if_neg (by rw [hz];decide)] at hR
   rw [hz] at c1
   generalize dM s=q at c1 hR hl1 hl2 hl3 hls
   obtain ⟨l,n,z⟩:=q
   simp only at c1 hR hl1 hl2 hl3 hls
   have c2:=D2 (G:=G) l n (by omega)
   have hst:pU l n=⟨l,n,0,0,0⟩:=rfl
   obtain ⟨st,hs⟩:∃ st,st=pU l n:=⟨_,rfl⟩
   rw [← hs] at hR hst
   have hsl:st.l.length≤100000:=by rw [hst];simp only;omega
   have c3:=Aa (G:=G) 100 0 rfl st hsl (by rw [hst])
   have g3:=im 100 st
   have n3:=vN (B:=200) 100 st (by rw [hst];exact hls)
   obtain ⟨x,s2,hx⟩:∃ x s2,gz 100 st=(x,s2):=⟨_,_,rfl⟩
   rw [hx] at c3 g3 n3 hR
   simp only at c3 n3 hR
   have hl2':=g3.ss.len
   simp only at hl2'
   obtain ⟨hxl,hxs⟩:=Bq g3 hsl n3
   have c4:=uc (G:=G) s2.l s2.fin
   have c5:=mm (G:=G) s2 (by omega)
   have c6:=Ez (G:=G) (sr s2) x hxl hxs
   unfold sr at hR c6
   unfold exD at c3 c6
   unfold ae at c2
   refine bP Tryz.func15 rfl (by decide +kernel) (by simp [Tryz.ntmps15]) (veil fun E=>?_)
   simp only [go_sem]
   refine ag E c1 rfl rfl (by simp) ?_
   rintro _ rfl
   simp only [go_sem]
   refine ab E [.d (.sl (some 4) (l.map fU)),.d (i64 n)] [] [] c2 rfl rfl ⟨by simp only [go_sem],by rw [aa];decide⟩ rfl (by simp only [go_sem]) (by simp only [go_sem]) ?_
   rintro _ _ ⟨rfl,rfl⟩
   unfold TO ae
   simp only [go_sem]
   rw [hst] at c3
   refine aS E (tau [([100],[25]),([101],[23,101])]) [.at [100] 0] (RO ⟨l,n,0,0,0⟩) [100,101] (c3) rfl (by simp only [go_sem];try rfl) ⟨by simp only [go_sem],by first | (rw [aa];decide) | (simp only [go_sem]<;>(try rw [aa])<;>decide)⟩ rfl (by unfold RO TO ae;simp only [go_sem];try rfl) (by unfold RO TO;simp only [go_sem]) ?_
   rintro _ _ ⟨rfl,rfl⟩
   unfold RO TO ae
   simp only [go_sem]
   refine aS E (tau [([101],[23,101])]) [.at [101] 0] (TO s2.l s2.fin) [101] c4 rfl (by simp only [go_sem];try rfl) ⟨by simp only [go_sem],by rw [aa];decide⟩ rfl (by unfold TO ae;simp only [go_sem];try rfl) (by unfold TO;simp only [go_sem]) ?_
   rintro _ _ ⟨rfl,rfl⟩
   unfold TO ae
   simp only [go_sem]
   refine aI E (fun h=>?_) (fun h=>?_)<;>simp only [go_sem]
   ·have h':s2.l.isEmpty=false:=by simpa using h
    rw [h'] at hR c6
    simp only [Bool.false_eq_true,if_false] at hR c6
    refine aS E (tau [([100],[25]),([101],[23,101])]) [.at [100] 0] (RO s2) [100,101] (c5) rfl (by simp only [go_sem];try rfl) ⟨by simp only [go_sem],by first | (rw [aa];decide) | (simp only [go_sem]<;>(try rw [aa])<;>decide)⟩ rfl (by unfold RO TO ae;simp only [go_sem];try rfl) (by unfold RO TO;simp only [go_sem]) ?_
    rintro _ _ ⟨rfl,rfl⟩
    unfold RO TO ae
    simp only [go_sem]
    refine aS E (tau [([100],[25]),([101],[23,101])]) [.at [100] 0,.d (.agg [.sl (some 9) (x.map enD)])] (RO s2.wrong) [100,101] (c6) rfl (by simp only [go_sem];try rfl) ⟨by simp only [go_sem],by first | (rw [aa];decide) | (simp only [go_sem]<;>(try rw [aa])<;>decide)⟩ rfl (by unfold RO TO ae;simp only [go_sem];try rfl) (by unfold RO TO;simp only [go_sem]) ?_
    rintro _ _ ⟨rfl,rfl⟩
    unfold RO TO ae
    simp only [go_sem]
    rw [hR]
    unfold fk exD
    by_cases hz:R.2.2=0
    ·simp only [if_pos hz]
     simp only [go_sem]
     refine ⟨[],?_⟩
     simp only [go_sem]
     unfold fk exD
     rw [if_pos hz]
    ·simp only [if_neg hz]
     simp only [go_sem]
     refine ⟨[],?_⟩
     simp only [go_sem]
     unfold fk
     rw [if_neg hz]
   ·have h':s2.l.isEmpty=true:=by simpa using h
    rw [h'] at hR c6
    simp only [if_true] at hR c6
    refine aS E (tau [([100],[25]),([101],[23,101])]) [.at [100] 0,.d (.agg [.sl (some 9) (x.map enD)])] (RO s2) [100,101] (c6) rfl (by simp only [go_sem];try rfl) ⟨by simp only [go_sem],by first | (rw [aa];decide) | (simp only [go_sem]<;>(try rw [aa])<;>decide)⟩ rfl (by unfold RO TO ae;simp only [go_sem];try rfl) (by unfold RO TO;simp only [go_sem]) ?_
    rintro _ _ ⟨rfl,rfl⟩
    unfold RO TO ae
    simp only [go_sem]
    rw [hR]
    unfold fk exD
    by_cases hz:R.2.2=0
    ·simp only [if_pos hz]
     simp only [go_sem]
     refine ⟨[],?_⟩
     simp only [go_sem]
     unfold fk exD
     rw [if_pos hz]
    ·simp only [if_neg hz]
     simp only [go_sem]
     refine ⟨[],?_⟩
     simp only [go_sem]
     unfold fk
     rw [if_neg hz]
end Go.Proofs.YtejpnabbmgpmaaaGreat

namespace Go.Proofs.YtejpnabbmgpmaaaGreat
open Go.Ab
end Go.Proofs.YtejpnabbmgpmaaaGreat

namespace Go.Proofs.YtejpnabbmgpmaaaGreat
open Go.Ab
def zQ (ns:List EN) (f:Nat):Nat→MS→Nat→Option (Int × Nat × Option MV)
 | 0,_,_=>none
 | m+1,s,d=>match trM ns s with
   | .go c t=>if f<d+c then some (3,f,none) else zQ ns f m t (d+c)
   | .fin c k=>if f<d+c then some (3,f,none) else some (k,d+c,if k=1 then s.v else none)
theorem vC {ns:List EN} {f:Nat} {o:Int × Nat × Option MV}:∀ (m:Nat) (s:MS) (d:Nat),zQ ns f m s d=some o→Runs ns f s d o
 | 0,_,_,h=>by cases h
 | m+1,s,d,h=>by
   rw [zQ] at h
   cases e:trM ns s with
   | go c t =>
     rw [e] at h
     simp only at h
     split at h
     ·rename_i g
      cases h
      exact .out e g
     ·rename_i g
      exact .next e (Nat.le_of_not_lt g) (vC m t _ h)
   | fin c k =>
     rw [e] at h
     simp only at h
     split at h
     ·rename_i g
      cases h
      exact .outF e g
     ·rename_i g
      cases h
      exact .fin e (Nat.le_of_not_lt g)
def exM:List UInt8:=[108,101,116,32,114,101,99,32,102,32,61,32,102,117,110,32,110,32,45,62,32,105,102,32,110,32,60,32,49,32,116,104,101,110,32,48,32,101,108,115,101,32,102,32,40,110,32,45,32,49,41,32,105,110,32,102,32,50]
def F6:Bool:=match zQ (dc exM).1 100 300 (ms0 (dc exM).1) 0 with
 | some (k,st,some v)=>decide (k=1) && decide (st=15) && decide (v.k=1) && decide (v.n=0) && decide (0≤jI v 1000)
 | _=>false
theorem BQ:F6=true:=by decide +kernel
theorem oC:(dc exM).2.2=0∧(dc exM).2.1=0∧jc (dc exM).1=0∧((dc exM).1.all fun n=>decide (-9223372036854775808≤n.n) && decide (n.n≤9223372036854775807))=true:=by decide +kernel
theorem Gz:Run (dc exM).1:=by
 obtain ⟨_,_,h2,h3⟩:=oC
 refine ⟨h2,fun n hn=>?_⟩
 have:=List.all_eq_true.1 h3 n hn
 simpa [inR] using this
set_option maxHeartbeats 1000000 in
theorem ui {G}:HP Tryz.prog G 38 [] (fun r=>r=.d (.bool true)):=by
 have c1:=ES (G:=G) exM (by decide)
 obtain ⟨h1,h2,_⟩:=oC
 have hR:=Gz
 have hb:=BQ
 unfold F6 at hb
 cases ho:zQ (dc exM).1 100 300 (ms0 (dc exM).1) 0 with
 | none=>rw [ho] at hb;cases hb
 | some o =>
 rw [ho] at hb
 obtain ⟨k,st,w⟩:=o
 cases w with
 | none=>cases hb
 | some v =>
 simp only [Bool.and_eq_true,decide_eq_true_eq] at hb
 obtain ⟨⟨⟨⟨rfl,rfl⟩,hk⟩,hn⟩,hc⟩:=hb
 have c2:=pw (G:=G) hR (fu:=100) (by omega) (vC _ _ _ ho)
 rw [j7] at c2
 unfold ny at c2
 rw [if_pos hc,dY,hk,hn] at c2
 clear ho
 generalize dc exM=P at *
 rw [show fk P=.tup [.d (.agg [.sl (some 9) (P.1.map enD)]),.d (i64 0),.d (i64 0)] by unfold fk exD;rw [if_pos h1,h1,h2]] at c1
 unfold exM at c1
 unfold exD at c2
 refine al Tryz.func38 rfl (by decide +kernel) (by simp [Tryz.ntmps38]) (veil fun E=>?_)
 simp only [go_sem]
 refine ag E (c1) rfl rfl (by simp) ?_
 rintro _ rfl
 simp only [go_sem]
 refine ag E (c2) rfl rfl (by simp) ?_
 rintro _ rfl
 simp only [go_sem]
end Go.Proofs.YtejpnabbmgpmaaaGreat

