/-
  The machine in plain words. (with the parts that follow it)
-/
import Derived.Test.YtejpnabbmgpmaaaGreatSBH
set_option linter.unusedSimpArgs false
namespace Go.Proofs.YtejpnabbmgpmaaaGreat
open Go.Ab
mutual
inductive MV where
 | mk (k n:Int) (s:List UInt8) (l:ML) (f:Nat) (env:ML) (self:List UInt8)
inductive ML where
 | nil
 | cons (x:List UInt8) (v:MV) (r:ML)
end
def MV.k:MV→Int | .mk k _ _ _ _ _ _=>k
def MV.n:MV→Int | .mk _ n _ _ _ _ _=>n
def MV.s:MV→List UInt8 | .mk _ _ s _ _ _ _=>s
def MV.l:MV→ML | .mk _ _ _ l _ _ _=>l
def MV.f:MV→Nat | .mk _ _ _ _ f _ _=>f
def MV.env:MV→ML | .mk _ _ _ _ _ e _=>e
def MV.self:MV→List UInt8 | .mk _ _ _ _ _ _ q=>q
def ML.len:ML→Nat
 | .nil=>0
 | .cons _ _ r=>r.len+1
def dD:ML→List UInt8→Option MV
 | .nil,_=>none
 | .cons y v r,x=>if y=x then some v else dD r x
def eT:List EF→List MV→ML
 | f::l,v::r=>.cons f.nm v (eT l r)
 | _,_=>.nil
def lu (s:List UInt8):MV:=.mk 3 0 s .nil 0 .nil []
def j8 (k n:Int):MV:=.mk k n [] .nil 0 .nil []
def xS (f:Nat) (env:ML) (self:List UInt8):MV:=.mk 4 0 [] .nil f env self
def iT:MV:=j8 0 0
structure MS where
 node:Nat
 env:ML
 v:Option MV
 st:List (Nat × ML × List MV)
inductive MR where
 | go (c:Nat) (s:MS)
 | fin (c:Nat) (k:Int)
def n6 (n:EN) (s:MS):MR :=
 if n.k=1∨n.k=2 then .go 0 { s with v:=some (j8 n.k n.n) } else if n.k=3 then .go 0 { s with v:=some (lu n.s) } else if n.k=5 then .go 0 { s with v:=some (xS s.node s.env []) } else
 match dD s.env n.name with
 | some v=>.go 0 { s with v:=some v }
 | none=>.fin 0 4
def pW (ns:List EN) (n:EN) (env:ML):MV:=xS n.a.toNat env (if (ndE ns n.a.toNat).name=n.name then [] else n.name)
def jH (ns:List EN) (s:MS):MR :=
 let n:=ndE ns s.node
 if n.k=8 then .go 1 ⟨n.b.toNat,.cons n.name (pW ns n s.env) s.env,none,s.st⟩
 else if 0<(aq n).length then .go 0 ⟨((aq n).getD 0 0).toNat,s.env,none,(s.node,s.env,[])::s.st⟩
 else if n.k=11 then .go 0 { s with v:=some (.mk 5 0 [] .nil 0 .nil []) } else n6 n s
def nE (n:EN) (a b:MV) (s:MS):MR :=
 if n.n=7 then (if a.k=3∧b.k=3 then .go 1 { s with v:=some (lu ((a.s++b.s).take 200)) } else .fin 0 4)
 else if a.k=1∧b.k=1 then (if kG n.n b.n≠0 then .fin 1 2 else .go 1 { s with v:=some (j8 (if 5≤n.n then 2 else 1) (jP n.n a.n b.n)) }) else .fin 0 4
def mc (ns:List EN) (n:EN) (env:ML) (h:List MV) (s:MS):MR :=
 let c:=h.getD 0 iT
 if n.k=6 then (if c.k=4 then
  (if c.self=[] then .go 1 ⟨(ndE ns c.f).a.toNat,.cons (ndE ns c.f).name (h.getD 1 iT) c.env,none,s.st⟩
   else .go 2 ⟨(ndE ns c.f).a.toNat,.cons c.self c (.cons (ndE ns c.f).name (h.getD 1 iT) c.env),none,s.st⟩) else .fin 0 4)
 else if n.k=7 then .go 1 ⟨n.b.toNat,.cons n.name c env,none,s.st⟩
 else if n.k=9 then (if c.k=2 then .go 1 ⟨(if c.n=1 then n.b else n.c).toNat,env,none,s.st⟩ else .fin 0 4)
 else if n.k=10 then nE n c (h.getD 1 iT) s
 else if n.k=11 then .go 0 { s with v:=some (.mk 5 0 [] (eT n.l h) 0 .nil []) }
 else if n.k=12 then (match dD c.l n.name with
  | some v=>if c.k=5 then .go 1 { s with v:=some v } else .fin 0 4
  | none=>.fin 0 4)
 else if n.k=13 then .go 0 { s with v:=some (.mk 6 0 n.name (.cons [] c .nil) 0 .nil []) }
 else (if c.k=6∧fX n.l c.s<n.l.length then (match c.l with
  | .cons _ v _=>.go 1 ⟨(fdE n.l (fX n.l c.s)).to.toNat,.cons (fdE n.l (fX n.l c.s)).var v env,none,s.st⟩
  | .nil=>.fin 0 4) else .fin 0 4)
def trM (ns:List EN) (s:MS):MR :=
 match s.v,s.st with
 | none,_=>jH ns s
 | some _,[]=>.fin 0 1
 | some v,f::r =>
   if f.2.2.length+1<(aq (ndE ns f.1)).length then .go 0 ⟨((aq (ndE ns f.1)).getD (f.2.2.length+1) 0).toNat,f.2.1,none,(f.1,f.2.1,f.2.2++[v])::r⟩
   else mc ns (ndE ns f.1) f.2.1 (f.2.2++[v]) ⟨s.node,s.env,some v,r⟩
mutual
def MV.ok (ns:List EN):MV→Prop
 | .mk k n s l f env _=>inR n∧(k=3→s.length≤200)∧(k=4→f<ns.length∧(ndE ns f).k=5)∧(k=6→l.len=1)∧l.len≤1000000∧(f≤1000000∧inR k)∧l.ok ns∧env.ok ns
def ML.ok (ns:List EN):ML→Prop
 | .nil=>True
 | .cons _ v r=>v.ok ns∧r.ok ns
end
theorem jD {ns:List EN}:∀ {l:ML} {x:List UInt8} {v:MV},l.ok ns→dD l x=some v→v.ok ns
 | .nil,x,v,_,h=>by cases h
 | .cons y u r,x,v,hk,h=>by
   rw [dD] at h
   rw [ML.ok] at hk
   split at h
   ·cases h;exact hk.1
   ·exact jD hk.2 h
theorem zJ {ns:List EN}:∀ (l:List EF) (h:List MV),(∀ v∈h,v.ok ns)→(eT l h).ok ns∧(eT l h).len≤l.length
 | [],_,_=>⟨trivial,Nat.le_refl _⟩
 | _::_,[],_=>⟨trivial,Nat.zero_le _⟩
 | f::l,v::r,hv=>by
   rw [eT,ML.ok,ML.len]
   obtain ⟨h1,h2⟩:=zJ l r fun u hu=>hv u (List.mem_cons_of_mem _ hu)
   exact ⟨⟨hv v List.mem_cons_self,h1⟩,by rw [List.length_cons];omega⟩
theorem tw {ns:List EN} {k n:Int} (h:inR n) (hk:k=0∨k=1∨k=2):(j8 k n).ok ns:=by
 unfold j8
 rw [MV.ok]
 refine ⟨h,by simp,fun e=>by omega,fun e=>by omega,by simp [ML.len],⟨by omega,?_⟩,trivial,trivial⟩
 rcases hk with rfl | rfl | rfl<;>exact ⟨by decide,by decide⟩
theorem A8 {ns:List EN} {s:List UInt8} (h:s.length≤200):(lu s).ok ns:=by
 unfold lu
 rw [MV.ok]
 exact ⟨e8,fun _=>h,fun e=>by omega,fun e=>by omega,by simp [ML.len],⟨by omega,⟨by decide,by decide⟩⟩,trivial,trivial⟩
theorem mV {ns:List EN} {f:Nat} {env:ML} {self:List UInt8} (hN:ns.length≤1000000) (h1:f<ns.length) (h2:(ndE ns f).k=5) (h3:env.ok ns):(xS f env self).ok ns:=by
 unfold xS
 rw [MV.ok]
 exact ⟨e8,by simp,fun _=>⟨h1,h2⟩,fun e=>by omega,by simp [ML.len],⟨by omega,⟨by decide,by decide⟩⟩,trivial,h3⟩
def szE (ns:List EN) (k:Int):Nat:=(trE ns k.toNat).sz
def pend (ns:List EN) (ks:List Int):Nat:=(ks.map (szE ns)).sum
theorem xz {ns:List EN} (hk:∀ i,i<ns.length→(ak (ndE ns i)).all (inB i)=true) {i:Nat} (hi:i<ns.length):szE ns (i:Int)=pend ns (ak (ndE ns i))+1:=by
 unfold szE pend
 rw [Int.toNat_natCast,FG hk hi,Gu]
 unfold szs
 rw [List.map_map]
 rfl
theorem de (n:EN):∃ r,ak n=aq n++r∧∀ k∈aq n,k∈ak n:=by
 obtain ⟨h1,h2⟩:=jd (n:=n)
 have e:aq n=(ak n).take (aq n).length:=by
  refine List.ext_getElem (by rw [List.length_take];omega) fun j g1 g2=>?_
  obtain ⟨h3,h4⟩:=h2 j (by omega)
  have h5:=h4 (h3.2 g1)
  rw [List.getElem_take]
  rw [List.getD_eq_getElem?_getD,List.getD_eq_getElem?_getD,List.getElem?_eq_getElem g1,List.getElem?_eq_getElem (show j<(ak n).length by omega)] at h5
  exact h5
 refine ⟨(ak n).drop (aq n).length,?_,fun k hk=>?_⟩
 ·conv=>lhs;rw [← List.take_append_drop (aq n).length (ak n)]
  rw [← e]
 ·rw [e] at hk
  exact List.mem_of_mem_take hk
theorem Bc (ns:List EN) (a b:List Int):pend ns (a++b)=pend ns a+pend ns b:=by
 unfold pend
 rw [List.map_append,List.sum_append]
theorem sg {ns:List EN} (hk:∀ i,i<ns.length→(ak (ndE ns i)).all (inB i)=true) {i:Nat} (hi:i<ns.length):pend ns (aq (ndE ns i))+1≤szE ns (i:Int):=by
 obtain ⟨r,hr,_⟩:=de (ndE ns i)
 rw [xz hk hi,hr,Bc]
 omega
theorem n7 (ns:List EN) {l:List Int} {j:Nat} (hj:j<l.length):pend ns (l.drop j)=szE ns (l.getD j 0)+pend ns (l.drop (j+1)):=by
 rw [List.drop_eq_getElem_cons hj]
 unfold pend
 rw [List.map_cons,List.sum_cons]
 simp [hj]
def frW (ns:List EN) (f:Nat × ML × List MV):Nat:=pend ns ((aq (ndE ns f.1)).drop (f.2.2.length+1))
def wtM (ns:List EN) (s:MS):Nat:=(if s.v.isNone then szE ns (s.node:Int) else 0)+(s.st.map (frW ns)).sum
def meM (ns:List EN) (s:MS):Nat:=2*wtM ns s+s.st.length+(if s.v.isSome then 1 else 0)
structure BK (ns:List EN) (f:Nat × ML × List MV):Prop where
 node:f.1<ns.length
 env:f.2.1.ok ns
 few:f.2.2.length<(aq (ndE ns f.1)).length
 vs:∀ v∈f.2.2,v.ok ns
structure MS.ok (ns:List EN) (s:MS):Prop where
 node:s.node<ns.length
 env:s.env.ok ns
 v:∀ v,s.v=some v→v.ok ns
 st:∀ f∈s.st,BK ns f
def p9 (ns:List EN) (s:MS):MR→Prop
 | .go c t=>t.ok ns∧c≤2∧(c=0→meM ns t<meM ns s∧t.st.length+wtM ns t≤s.st.length+wtM ns s)∧t.st.length+wtM ns t≤s.st.length+wtM ns s+600
 | .fin c k=>(c=0∧k=4)∨(c=1∧k=2)∨(c=0∧k=1∧∃ v,s.v=some v)
end Go.Proofs.YtejpnabbmgpmaaaGreat

namespace Go.Proofs.YtejpnabbmgpmaaaGreat
open Go.Ab
theorem tz {ns:List EN}:iT.ok ns:=tw e8 (.inl rfl)
theorem EB {ns:List EN} {h:List MV} (hv:∀ v∈h,v.ok ns) (j:Nat):(h.getD j iT).ok ns:=by
 rw [List.getD_eq_getElem?_getD]
 cases e:h[j]? with
 | none=>exact tz
 | some v=>exact hv v (List.mem_of_getElem? e)
theorem MV.ok.sl {ns:List EN}:∀ {v:MV},v.ok ns→v.k=3→v.s.length≤200
 | .mk ..,h=>by rw [MV.ok] at h;exact h.2.1
theorem MV.ok.fn {ns:List EN}:∀ {v:MV},v.ok ns→v.k=4→v.f<ns.length∧(ndE ns v.f).k=5
 | .mk ..,h=>by rw [MV.ok] at h;exact h.2.2.1
theorem MV.ok.tg {ns:List EN}:∀ {v:MV},v.ok ns→v.k=6→v.l.len=1
 | .mk ..,h=>by rw [MV.ok] at h;exact h.2.2.2.1
theorem MV.ok.ll {ns:List EN}:∀ {v:MV},v.ok ns→v.l.len≤1000000
 | .mk ..,h=>by rw [MV.ok] at h;exact h.2.2.2.2.1
theorem MV.ok.lok {ns:List EN}:∀ {v:MV},v.ok ns→v.l.ok ns
 | .mk ..,h=>by rw [MV.ok] at h;exact h.2.2.2.2.2.2.1
theorem MV.ok.eok {ns:List EN}:∀ {v:MV},v.ok ns→v.env.ok ns
 | .mk ..,h=>by rw [MV.ok] at h;exact h.2.2.2.2.2.2.2
theorem uu {ns:List EN} {s:MS} {c b:Nat} {env:ML} {r:List (Nat × ML × List MV)} (hc:1≤c∧c≤2) (hb:b<ns.length) (hz:szE ns (b:Int)≤600) (he:env.ok ns) (hr:∀ f∈r,BK ns f)
  (hl:r.length+(r.map (frW ns)).sum≤s.st.length+wtM ns s):p9 ns s (.go c ⟨b,env,none,r⟩):=by
 refine ⟨⟨hb,he,fun v h=>(by cases h),hr⟩,hc.2,fun h=>by omega,?_⟩
 unfold wtM
 simp only [Option.isNone_none,if_true]
 unfold wtM at hl
 omega
theorem u1 {ns:List EN} {s:MS} {c:Nat} {v:MV} {r:List (Nat × ML × List MV)} (hc:c≤1) (hs:s.ok ns) (hv:v.ok ns) (hr:∀ f∈r,BK ns f)
  (hl:r.length+(r.map (frW ns)).sum≤s.st.length+wtM ns s) (hm:2*(r.map (frW ns)).sum+r.length+1<meM ns s):p9 ns s (.go c ⟨s.node,s.env,some v,r⟩):=by
 refine ⟨⟨hs.node,hs.env,fun u h=>by cases h;exact hv,hr⟩,by omega,fun _=>?_,?_⟩
 ·unfold meM wtM
  unfold meM wtM at hm
  unfold wtM at hl
  simp only [Option.isNone_some,Option.isSome_some,if_true,Bool.false_eq_true,if_false,Nat.zero_add] at hl hm ⊢
  exact ⟨by omega,by omega⟩
 ·unfold wtM
  unfold wtM at hl
  simp only [Option.isNone_some,Bool.false_eq_true,if_false,Nat.zero_add] at hl ⊢
  omega
theorem vj {xs:List EN} (h:Run xs) {i:Nat} (hi:i<xs.length):szE xs (i:Int)≤600:=by
 unfold szE
 rw [Int.toNat_natCast]
 exact FY h hi
theorem D7 {ns:List EN} (h:Run ns) {i:Nat} (hi:i<ns.length) (k8:(ndE ns i).k=8) {env:ML} (he:env.ok ns):(pW ns (ndE ns i) env).ok ns:=by
 have ht:=h.t
 have hke:=mI (.inr (.inr (.inl k8)))
 obtain ⟨a,ha,hai⟩:=du ht hi (k:=(ndE ns i).a) (by rw [hke];simp)
 have hlk:=ht.link i hi
 have k5:(ndE ns a).k=5:=by
  unfold eN at hlk
  rw [Bool.and_eq_true] at hlk
  have h9:=hlk.2
  simp only [k8,Bool.or_eq_true,decide_eq_true_eq] at h9
  have h9:=h9.resolve_left (by simp)
  rwa [ha,Int.toNat_natCast] at h9
 unfold pW
 rw [ha,Int.toNat_natCast]
 have:=ht.few
 exact mV (by omega) (by omega) k5 he
theorem Fk {ns:List EN} (h:Run ns) {s:MS} (hs:s.ok ns) (hv:s.v=none):p9 ns s (jH ns s):=by
 have ht:=h.t
 have hi:=hs.node
 have hk:=bm ht
 have hfew:=ht.few
 have hw:wtM ns s=szE ns (s.node:Int)+(s.st.map (frW ns)).sum:=by unfold wtM;rw [hv];rfl
 have hme:meM ns s=2*wtM ns s+s.st.length:=by unfold meM;rw [hv];rfl
 have hp:=sg hk hi
 have hz:1≤szE ns (s.node:Int):=by omega
 have hn:inR (ndE ns s.node).n:=h.rng _ (by rw [bj hi];exact List.getElem_mem hi)
 have give:∀ v:MV,v.ok ns→p9 ns s (.go 0 { s with v:=some v }):=fun v hv=>u1 (by omega) hs hv hs.st (by omega) (by omega)
 unfold jH
 simp only
 by_cases k8:(ndE ns s.node).k=8
 ·rw [if_pos k8]
  have hke:=mI (.inr (.inr (.inl k8)))
  obtain ⟨b,hb,hbi⟩:=du ht hi (k:=(ndE ns s.node).b) (by rw [hke];simp)
  rw [hb,Int.toNat_natCast]
  refine uu (by omega) (by omega) (vj h (by omega)) ?_ hs.st (by omega)
  rw [ML.ok]
  exact ⟨D7 h hi k8 hs.env,hs.env⟩
 rw [if_neg k8]
 by_cases hf:0<(aq (ndE ns s.node)).length
 ·rw [if_pos hf]
  obtain ⟨r,hr,hmem⟩:=de (ndE ns s.node)
  have hm0:(aq (ndE ns s.node)).getD 0 0∈aq (ndE ns s.node):=by
   rw [List.getD_eq_getElem?_getD,List.getElem?_eq_getElem hf]
   exact List.getElem_mem hf
  obtain ⟨a,ha,hai⟩:=du ht hi (hmem _ hm0)
  have hd:=n7 ns hf
  rw [List.drop_zero,ha] at hd
  rw [ha,Int.toNat_natCast]
  refine ⟨⟨by show a<_;omega,hs.env,fun v h=>(by cases h),fun f hf'=>?_⟩,by omega,fun _=>?_,?_⟩
  ·rcases List.mem_cons.1 hf' with rfl | hf'
   ·exact ⟨hi,hs.env,hf,fun v h=>by cases h⟩
   ·exact hs.st f hf'
  all_goals
   unfold meM wtM at *
   rw [hv] at *
   simp only [Option.isNone_none,if_true,List.map_cons,List.sum_cons,List.length_cons,Option.isSome_none,Bool.false_eq_true,if_false,frW,List.length_nil,Nat.zero_add] at *
   omega
 rw [if_neg hf]
 by_cases k11:(ndE ns s.node).k=11
 ·rw [if_pos k11]
  refine give _ ?_
  rw [MV.ok]
  exact ⟨e8,fun e=>by omega,fun e=>by omega,fun e=>by omega,by simp [ML.len],⟨by omega,⟨by decide,by decide⟩⟩,trivial,trivial⟩
 rw [if_neg k11]
 unfold n6
 split
 ·rename_i k
  exact give _ (tw hn (.inr k))
 split
 ·exact give _ (A8 (vl (ht.right s.node hi)))
 split
 ·rename_i k5
  exact give _ (mV (by omega) hi k5 hs.env)
 split
 ·rename_i v e
  exact give v (jD hs.env e)
 ·exact .inl ⟨rfl,rfl⟩
set_option maxHeartbeats 1000000 in
theorem EW {ns:List EN} (h:Run ns) {s:MS} (hs:s.ok ns) {f:Nat × ML × List MV} {r:List (Nat × ML × List MV)} {v:MV} (hv:s.v=some v) (hst:s.st=f::r) :
  p9 ns s (mc ns (ndE ns f.1) f.2.1 (f.2.2++[v]) ⟨s.node,s.env,some v,r⟩):=by
 have ht:=h.t
 have hf:=hs.st f (by rw [hst];exact List.mem_cons_self)
 have hrs:∀ g∈r,BK ns g:=fun g hg=>hs.st g (by rw [hst];exact List.mem_cons_of_mem _ hg)
 have hi:=hf.node
 have hl:r.length+(r.map (frW ns)).sum≤s.st.length+wtM ns s:=by
  unfold wtM
  rw [hst,List.map_cons,List.sum_cons,List.length_cons]
  omega
 have hm:2*(r.map (frW ns)).sum+r.length+1<meM ns s:=by
  unfold meM wtM
  rw [hst,hv,List.map_cons,List.sum_cons,List.length_cons]
  simp only [Option.isSome_some,if_true]
  omega
 have hvs:∀ u∈f.2.2++[v],u.ok ns:=fun u hu=>by
  rcases List.mem_append.1 hu with hu | hu
  ·exact hf.vs u hu
  ·rw [List.mem_singleton.1 hu];exact hs.v v hv
 have give:∀ c (u:MV),c≤1→u.ok ns→p9 ns s (.go c ⟨s.node,s.env,some u,r⟩):=fun c u hc hu=>u1 hc hs hu hrs hl hm
 have look:∀ c (k:Int) (env:ML) (i:Nat),1≤c∧c≤2→i<ns.length→k∈ak (ndE ns i)→env.ok ns→p9 ns s (.go c ⟨k.toNat,env,none,r⟩):=fun c k env i hc hi hk he=>by
  obtain ⟨a,ha,hai⟩:=du ht hi hk
  rw [ha,Int.toNat_natCast]
  exact uu hc (by omega) (vj h (by omega)) he hrs hl
 have no:p9 ns s (.fin 0 4):=.inl ⟨rfl,rfl⟩
 have hg:=EB hvs
 have c0:=hg 0
 have c1:=hg 1
 have hln:=oQ ht (ndE ns f.1) (by rw [bj hi];exact List.getElem_mem hi)
 obtain ⟨n,hn⟩:∃ n,n=ndE ns f.1:=⟨_,rfl⟩
 unfold mc
 simp only
 generalize f.2.2++[v]=H at *
 generalize H.getD 0 iT=c at *
 generalize H.getD 1 iT=d at *
 rw [← hn] at hln ⊢
 by_cases k6:n.k=6
 ·rw [if_pos k6]
  split
  ·rename_i hk
   obtain ⟨g1,g2⟩:=c0.fn hk
   have hke:=uM (.inl g2)
   split
   ·refine look _ _ _ c.f (by omega) g1 (by rw [hke];simp) ?_
    rw [ML.ok]
    exact ⟨c1,c0.eok⟩
   ·refine look _ _ _ c.f (by omega) g1 (by rw [hke];simp) ?_
    rw [ML.ok,ML.ok]
    exact ⟨c0,c1,c0.eok⟩
  ·exact no
 rw [if_neg k6]
 by_cases k7:n.k=7
 ·rw [if_pos k7]
  refine look _ _ _ f.1 (by omega) hi (by rw [← hn,mI (.inr (.inl k7))];simp) ?_
  rw [ML.ok]
  exact ⟨c0,hf.env⟩
 rw [if_neg k7]
 by_cases k9:n.k=9
 ·rw [if_pos k9]
  split
  ·refine look _ _ _ f.1 (by omega) hi ?_ hf.env
   rw [← hn,v7 k9]
   split<;>simp
  ·exact no
 rw [if_neg k9]
 by_cases k10:n.k=10
 ·rw [if_pos k10]
  unfold nE
  split
  ·split
   ·exact give _ _ (by omega) (A8 (by rw [List.length_take];omega))
   ·exact no
  ·split
   ·split
    ·exact .inr (.inl ⟨rfl,rfl⟩)
    ·exact give _ _ (by omega) (tw Bk (by split<;>simp))
   ·exact no
 rw [if_neg k10]
 by_cases k11:n.k=11
 ·rw [if_pos k11]
  refine give _ _ (by omega) ?_
  obtain ⟨g1,g2⟩:=zJ n.l H hvs
  rw [MV.ok]
  exact ⟨e8,fun e=>by omega,fun e=>by omega,fun e=>by omega,by omega,⟨by omega,⟨by decide,by decide⟩⟩,g1,trivial⟩
 rw [if_neg k11]
 by_cases k12:n.k=12
 ·rw [if_pos k12]
  split
  ·rename_i u e
   split
   ·exact give _ _ (by omega) (jD c0.lok e)
   ·exact no
  ·exact no
 rw [if_neg k12]
 by_cases k13:n.k=13
 ·rw [if_pos k13]
  refine give _ _ (by omega) ?_
  rw [MV.ok,ML.ok]
  exact ⟨e8,fun e=>by omega,fun e=>by omega,fun _=>by simp [ML.len],by simp [ML.len],⟨by omega,⟨by decide,by decide⟩⟩,⟨c0,trivial⟩,trivial⟩
 rw [if_neg k13]
 split
 ·rename_i hk
  split
  ·rename_i x u q e
   have hfs:0<(aq n).length:=by have:=hf.few;rw [← hn] at this;omega
   have k14:n.k=14:=by
    unfold aq at hfs
    rw [if_neg (by omega)] at hfs
    split at hfs
    ·omega
    ·exact absurd hfs (by simp)
   refine look _ _ _ f.1 (by omega) hi ?_ ?_
   ·rw [← hn,ug k14]
    refine List.mem_cons_of_mem _ (List.mem_map.2 ⟨fdE n.l (fX n.l c.s),?_,rfl⟩)
    rw [show fdE n.l (fX n.l c.s)=n.l[fX n.l c.s]'hk.2 by simp [fdE,hk.2]]
    exact List.getElem_mem hk.2
   ·rw [ML.ok]
    have:=c0.lok
    rw [e,ML.ok] at this
    exact ⟨this.1,hf.env⟩
  ·exact no
 ·exact no
theorem fM {ns:List EN} (h:Run ns) {s:MS} (hs:s.ok ns):p9 ns s (trM ns s):=by
 have ht:=h.t
 unfold trM
 split
 ·rename_i hv
  exact Fk h hs hv
 ·rename_i v hv hst
  exact .inr (.inr ⟨rfl,rfl,v,hv⟩)
 ·rename_i v f r hv hst
  have hf:=hs.st f (by rw [hst];exact List.mem_cons_self)
  have hi:=hf.node
  split
  ·rename_i hl
   obtain ⟨q,hq,hmem⟩:=de (ndE ns f.1)
   have hm0:(aq (ndE ns f.1)).getD (f.2.2.length+1) 0∈aq (ndE ns f.1):=by
    rw [List.getD_eq_getElem?_getD,List.getElem?_eq_getElem hl]
    exact List.getElem_mem hl
   obtain ⟨a,ha,hai⟩:=du ht hi (hmem _ hm0)
   have hd:=n7 ns hl
   rw [ha] at hd
   rw [ha,Int.toNat_natCast]
   refine ⟨⟨by show a<_;omega,hf.env,fun v h=>(by cases h),fun g hg=>?_⟩,by omega,fun _=>?_,?_⟩
   ·rcases List.mem_cons.1 hg with rfl | hg
    ·refine ⟨hi,hf.env,by simpa using hl,fun u hu=>?_⟩
     rcases List.mem_append.1 hu with hu | hu
     ·exact hf.vs u hu
     ·rw [List.mem_singleton.1 hu];exact hs.v v hv
    ·exact hs.st g (by rw [hst];exact List.mem_cons_of_mem _ hg)
   all_goals
    simp only [meM,wtM]
    rw [hst,hv]
    simp only [Option.isNone_none,Option.isNone_some,if_true,List.map_cons,List.sum_cons,List.length_cons,Option.isSome_none,Option.isSome_some,Bool.false_eq_true,if_false,frW,List.length_append,List.length_singleton,List.length_nil,Nat.zero_add]
    omega
  ·exact EW h hs hv hst
inductive Runs (ns:List EN) (f:Nat):MS→Nat→Int × Nat × Option MV→Prop
 | out {s d c t} (e:trM ns s=.go c t) (h:f<d+c):Runs ns f s d (3,f,none)
 | outF {s d c k} (e:trM ns s=.fin c k) (h:f<d+c):Runs ns f s d (3,f,none)
 | fin {s d c k} (e:trM ns s=.fin c k) (h:d+c≤f):Runs ns f s d (k,d+c,if k=1 then s.v else none)
 | next {s d c t o} (e:trM ns s=.go c t) (h:d+c≤f) (r:Runs ns f t (d+c) o):Runs ns f s d o
def msr (ns:List EN) (f:Nat) (s:MS) (d:Nat):Nat:=(f-d)*(1200*(f+1)+2)+meM ns s
theorem mQ {ns:List EN} (h:Run ns) {f:Nat} {s t:MS} {c d:Nat} (hs:s.ok ns) (hd:d+c≤f) (hl:s.st.length+wtM ns s≤600*(d+1)) (e:trM ns s=.go c t) :
  t.ok ns∧msr ns f t (d+c)<msr ns f s d∧t.st.length+wtM ns t≤600*(d+c+1):=by
 have k:=fM h hs
 rw [e] at k
 obtain ⟨k1,k2,k3,k4⟩:=k
 refine ⟨k1,?_,?_⟩
 ·unfold msr
  by_cases h0:c=0
  ·obtain ⟨g,_⟩:=k3 h0
   subst h0
   rw [Nat.add_zero]
   omega
  ·have hb:meM ns t≤2*(t.st.length+wtM ns t)+1:=by
    unfold meM
    split<;>omega
   have e1:f-d=(f-(d+c))+c:=by omega
   rw [e1,Nat.add_mul]
   have:1*(1200*(f+1)+2)≤c*(1200*(f+1)+2):=Nat.mul_le_mul_right _ (by omega)
   omega
 ·by_cases h0:c=0
  ·obtain ⟨_,g⟩:=k3 h0
   omega
  ·omega
theorem BO {ns:List EN} (h:Run ns) {f:Nat}:∀ (m:Nat) (s:MS) (d:Nat),msr ns f s d<m→s.ok ns→s.st.length+wtM ns s≤600*(d+1)→∃ o,Runs ns f s d o:=by
 intro m
 induction m with
 | zero=>exact fun s d hm=>absurd hm (Nat.not_lt_zero _)
 | succ m ih =>
   intro s d hm hs hl
   cases e:trM ns s with
   | fin c k =>
     by_cases hf:d+c≤f
     ·exact ⟨_,.fin e hf⟩
     ·exact ⟨_,.outF e (Nat.lt_of_not_le hf)⟩
   | go c t =>
     by_cases hf:d+c≤f
     ·obtain ⟨h1,h2,h3⟩:=mQ h hs hf hl e
      obtain ⟨o,ho⟩:=ih t (d+c) (Nat.lt_of_lt_of_le h2 (Nat.le_of_lt_succ hm)) h1 h3
      exact ⟨o,.next e hf ho⟩
     ·exact ⟨_,.out e (Nat.lt_of_not_le hf)⟩
structure n9 (ns:List EN) (f d:Nat) (o:Int × Nat × Option MV):Prop where
 le:o.2.1≤f
 full:o.1=3→o.2.1=f∧o.2.2=none
 ge:d≤o.2.1
 kind:o.1=1∨o.1=2∨o.1=3∨o.1=4
 val:o.1=1↔∃ v,o.2.2=some v
 ok:∀ v,o.2.2=some v→v.ok ns
theorem rM {ns:List EN} {f d:Nat} (hd:d≤f):n9 ns f d (3,f,none):=by
 refine ⟨Nat.le_refl _,fun _=>⟨rfl,rfl⟩,hd,by simp,?_,fun v e=>by cases e⟩
 show (3:Int)=1↔_
 exact ⟨fun e=>absurd e (by decide),fun ⟨v,e⟩=>by cases e⟩
theorem vK {ns:List EN} {f d e:Nat} {k:Int} (hd:d≤e) (he:e≤f) (hk:k=2∨k=4):n9 ns f d (k,e,none):=by
 refine ⟨he,fun e=>?_,hd,?_,?_,fun v e=>by cases e⟩
 ·have e:k=3:=e
  omega
 ·show k=1∨k=2∨k=3∨k=4
  omega
 ·show k=1↔_
  exact ⟨fun e=>by omega,fun ⟨v,e⟩=>by cases e⟩
theorem vD {ns:List EN} (h:Run ns) {f:Nat} {s:MS} {d:Nat} {o:Int × Nat × Option MV} (r:Runs ns f s d o):s.ok ns→d≤f→n9 ns f d o:=by
 induction r with
 | out e g=>exact fun _ hd=>rM hd
 | outF e g=>exact fun _ hd=>rM hd
 | @fin s d c k e g =>
   intro hs hd
   have q:=fM h hs
   rw [e] at q
   rcases q with ⟨rfl,rfl⟩ | ⟨rfl,rfl⟩ | ⟨rfl,rfl,v,hv⟩
   ·exact vK (Nat.le_refl _) g (.inr rfl)
   ·exact vK (Nat.le_succ _) g (.inl rfl)
   ·refine ⟨g,fun e=>?_,Nat.le_refl _,.inl rfl,⟨fun _=>⟨v,hv⟩,fun _=>rfl⟩,fun u e=>hs.v u e⟩
    have e:(1:Int)=3:=e
    exact absurd e (by decide)
 | next e g r ih =>
   intro hs hd
   have k:=fM h hs
   rw [e] at k
   have q:=ih k.1 g
   exact ⟨q.le,q.full,by have:=q.ge;omega,q.kind,q.val,q.ok⟩
theorem ko {ns:List EN} {s:MS} {c c':Nat} {t t':MS} (e:trM ns s=.go c t) (e':trM ns s=.go c' t'):c=c'∧t=t':=by
 have:=e.symm.trans e'
 injection this with h1 h2
 exact ⟨h1,h2⟩
theorem iA {ns:List EN} {s:MS} {c c':Nat} {k k':Int} (e:trM ns s=.fin c k) (e':trM ns s=.fin c' k'):c=c'∧k=k':=by
 have:=e.symm.trans e'
 injection this with h1 h2
 exact ⟨h1,h2⟩
theorem dN {ns:List EN} {s:MS} {c c':Nat} {t:MS} {k:Int} (e:trM ns s=.go c t) (e':trM ns s=.fin c' k):False:=by
 have:=e.symm.trans e'
 injection this
theorem wq {ns:List EN} (h:Run ns) {f f':Nat} (hf:f≤f') {s:MS} {d:Nat} {o:Int × Nat × Option MV} (r:Runs ns f s d o):s.ok ns→d≤f→∀ p,Runs ns f' s d p→if o.1=3 then f≤p.2.1 else p=o:=by
 induction r with
 | out e g =>
   intro hs hd p q
   rw [if_pos rfl]
   cases q with
   | out e' g'=>exact hf
   | outF e' g'=>exact hf
   | fin e' g'=>exact (dN e e').elim
   | next e' g' r' =>
     obtain ⟨rfl,rfl⟩:=ko e e'
     have k:=fM h hs
     rw [e] at k
     have:=(vD h r' k.1 g').ge
     omega
 | outF e g =>
   intro hs hd p q
   rw [if_pos rfl]
   cases q with
   | out e' g'=>exact hf
   | outF e' g'=>exact hf
   | fin e' g' =>
     obtain ⟨rfl,rfl⟩:=iA e e'
     exact Nat.le_of_lt g
   | next e' g' r'=>exact (dN e' e).elim
 | fin e g =>
   intro hs hd p q
   have k:=fM h hs
   rw [e] at k
   rw [if_neg (by show ¬ _=(3:Int);rcases k with ⟨_,k⟩ | ⟨_,k⟩ | ⟨_,k,_⟩<;>omega)]
   cases q with
   | out e' g'=>exact (dN e' e).elim
   | outF e' g' =>
     obtain ⟨rfl,rfl⟩:=iA e e'
     omega
   | fin e' g' =>
     obtain ⟨rfl,rfl⟩:=iA e e'
     rfl
   | next e' g' r'=>exact (dN e' e).elim
 | next e g r ih =>
   intro hs hd p q
   have k:=fM h hs
   rw [e] at k
   cases q with
   | out e' g' =>
     obtain ⟨rfl,rfl⟩:=ko e e'
     omega
   | outF e' g'=>exact (dN e e').elim
   | fin e' g'=>exact (dN e e').elim
   | next e' g' r' =>
     obtain ⟨rfl,rfl⟩:=ko e e'
     exact ih k.1 g p r'
theorem xd {ns:List EN} (h:Run ns) {f f':Nat} {s:MS} {d:Nat} {o:Int × Nat × Option MV} (r:Runs ns f s d o):s.ok ns→d≤f→o.1≠3→f' < o.2.1→d≤f'→∀ p,Runs ns f' s d p→p.1=3:=by
 induction r with
 | out e g=>exact fun _ _ h3=>absurd rfl h3
 | outF e g=>exact fun _ _ h3=>absurd rfl h3
 | fin e g =>
   intro hs hd h3 hl hd' p q
   cases q with
   | out e' g'=>rfl
   | outF e' g'=>rfl
   | fin e' g' =>
     obtain ⟨rfl,rfl⟩:=iA e e'
     have hl:f' < _+_:=hl
     omega
   | next e' g' r'=>exact (dN e' e).elim
 | next e g r ih =>
   intro hs hd h3 hl hd' p q
   have k:=fM h hs
   rw [e] at k
   cases q with
   | out e' g'=>rfl
   | outF e' g'=>rfl
   | fin e' g'=>exact (dN e e').elim
   | next e' g' r' =>
     obtain ⟨rfl,rfl⟩:=ko e e'
     exact ih k.1 g h3 hl g' p r'
end Go.Proofs.YtejpnabbmgpmaaaGreat

namespace Go.Ab
def wrS (σ:Name→Name) (d:Nat) (chp hp':List (Name × Ob)):List (Name × Option Ob):=((hp'.map fun x:Name × Ob=>(cQ σ d chp x.1,some (x.2.ren (cQ σ d chp))))++chp.map fun x:Name × Ob=>(σ x.1,none)).reverse
theorem xe (σ:Name→Name) (d:Nat) (chp hp':List (Name × Ob)):(wrS σ d chp hp').map (fun x=>x.1)=((hp'.map fun x:Name × Ob=>cQ σ d chp x.1)++chp.map fun x:Name × Ob=>σ x.1).reverse:=by
 unfold wrS
 rw [List.map_reverse,List.map_append,List.map_map,List.map_map]
 rfl
attribute [go_sem] xe
theorem u7 (s:St) (σ:Name→Name) (d:Nat) (chp hp':List (Name × Ob)) (r:AV):aft s σ d chp hp' r=s.go (some d) (r.ren (cQ σ d chp)) ⟨wrS σ d chp hp',[d]⟩:=by
 refine tM (funext fun q=>?_) rfl fun t=>rfl
 show lkA (lkA (s.hp q) (chp.map fun x=>(σ x.1,none)) q) _ q=(wl (wrS σ d chp hp') q).getD (s.hp q)
 unfold wrS
 rw [tZ,qx]
section
variable {P:Program} {cf:Cf} {ops:Array Oper} {K:St→Ns→Prop} {r:List Oper} {s:St} {ns:Ns}
theorem qs (E:XEng P cf ops K) {d:Nat} {fv:Operand} {args:Array Operand} {at':Array TypeId} {ty:TypeId} {pos:String} {af:Array Edge} {g:Option (Nat × Bool)}
  {f:FuncId} {caps:List AV} (σ:Name→Name) (cargs:List AV) (chp:List (Name × Ob)) (cu:List Nat) (x:AV) (hp':List (Name × Ob)) (hc:HCall P cf.G f cargs chp cu (fun y h=>y=x∧h=hp'))
  (hev:ev s fv=.clo f caps) (hargs:args.toList.map (ev s)++caps=dy σ cargs) (hd:d<cf.n∧d ∉ s.used) (hcu:dj cu cargs=true) (hpass:cJ σ cu s chp) (hinj:jm σ chp)
  (hl:fp chp hp') (hk:E.run r (aft s σ d chp hp' x) (ns++[(chp.map (fun q=>σ q.1),(wrS σ d chp hp').map (·.1),[d])])) :
  E.stp { dst:=some d,op:=.call { callee:=.value fv,args:=args,argTypes:=at' },type:=ty,pos:=pos,after:=af,guard:=g } r s ns .no:=by
 rw [E.stp_eq]
 refine ⟨x.ren (cQ σ d chp),(chp.map (fun q=>σ q.1),⟨wrS σ d chp hp',[d]⟩),fun s' hu hh he B hB ds' β a w hds hs Q'=>?_,fun y hy=>?_,hd.1,?_⟩
 ·have hm:∀ y,y=fv∨y∈args→ev s' y=ev s y:=fun y hy=>he y (by
   simp only [Op.operands,Call.operands]
   rcases hy with rfl | hy<;>simp_all)
  have hpass':cJ σ cu s' chp:=by
   have:∀ l:List (Name × Ob),(∀ q∈l,σ q.1∈chp.map (fun q=>σ q.1))→cJ σ cu s l→cJ σ cu s' l:=by
    intro l
    induction l with
    | nil=>intros;trivial
    | cons q r ih =>
      intro hq h
      refine ⟨⟨?_,h.1.2⟩,ih (fun x hx=>hq x (List.mem_cons_of_mem _ hx)) h.2⟩
      rw [show s'.hp (σ q.1)=s.hp (σ q.1) from hh _ (hq q List.mem_cons_self)]
      exact h.1.1
   exact this chp (fun q hq=>List.mem_map.2 ⟨q,hq,rfl⟩) hpass
  have hok:AOk P cf { dst:=some d,op:=.call { callee:=.value fv,args:=args,argTypes:=at' },type:=ty,pos:=pos,after:=af,guard:=g } s' [] (fun _ s2=>s2=aft s' σ d chp hp' x):=by
   refine lS d σ cargs chp cu _ ((hm fv (.inl rfl)).trans hev) ?_ hcu (hu d (by simp)) (fun t ht=>?_) hpass' hinj hc fun y h hr=>?_
   ·rw [pd (s:=s) (s':=s') fun y hy=>hm y (.inr (by simpa using hy)),hargs]
   ·obtain rfl:=Option.some.inj ht
    exact ⟨hd.1,rfl⟩
   ·obtain ⟨rfl,rfl⟩:=hr
    exact ⟨hl,by rw [cj];rfl⟩
  refine Oper.wpIn_mono ?_ (hok B hB ds' β a w hds hs Q')
  rintro a' w' ⟨hd',s2,β',hrun,hs2⟩
  obtain ⟨_,s3,β3,rfl,hs3⟩:=hrun B hB ds' β' a' w' hd' hs2
  exact ⟨hd',β3,by rw [← u7];exact hs3⟩
 ·obtain rfl:=List.mem_singleton.1 hy
  exact hd.2
 ·rw [← E.run_eq,← u7]
  exact hk
end
end Go.Ab

namespace Go.Ab
section
variable {P:Program} {cf:Cf} {ops:Array Oper} {K:St→Ns→Prop} {r:List Oper} {s:St} {ns:Ns}
theorem cC (E:XEng P cf ops K) {d:Nat} {x:Operand} {ty:TypeId} {pos:String} {af:Array Edge} {g:Option (Nat × Bool)} {v:D} (hd:d<cf.n) (hx:ev s x=.d (.ptr v)) (h:E.run r (s.put d (.d (.ptr v))) (ns++[([],[],[])])) :
  E.stp { dst:=some d,op:=.nilCheck x,type:=ty,pos:=pos,after:=af,guard:=g } r s ns .no:=by
 refine nL E (x:=.d (.ptr v)) [] (fun t ht=>by rw [Option.mem_def,Option.some.injEq] at ht;rw [← ht];exact hd) (fun s' _ he=>?_) h
 have hx':ev s' x=.d (.ptr v):=(he x (by simp [Op.operands])).trans hx
 refine fE rfl hd (by simp) (fun B β a w hs=>⟨a.eval x,?_,hx' ▸ hs.ev x⟩) (by rw [cj];rfl)
 have hv:=hs.ev x
 rw [hx'] at hv
 have hr:=hv.toD
 have he:∀ y,a.eval x=y→(∃ ad,y=.pointer (some ad))→(execOp a.eval { dst:=some d,op:=.nilCheck x,type:=ty,pos:=pos,after:=af,guard:=g }).run P w=.ok (.value y) w:=by
  rintro y hy ⟨ad,rfl⟩
  simp [execOp,hy]
 refine he _ rfl ?_
 generalize a.eval x=y at hr
 cases hr
 exact ⟨_,rfl⟩
theorem yU (E:XEng P cf ops K) {d t e:Nat} {x y:Operand} {ty:TypeId} {pos:String} {af:Array Edge} {xs:List D} (p:Name) (zs:List D) (l:Nat) (hk:(P.ti t).k=.slice e) (hz:(P.ti e).zOk=true) (hw:(P.ti e).isW (P.ti e).w=true)
  (hd:d<cf.n∧d ∉ s.used) (hx:ev s x=.d (.slx (P.ti e).w xs)) (hy:ev s y=.vw p 0 l) (hp:s.hp p=some (.arr (P.ti e).w zs)) (h0:0<(zs.take l).length) (hl:(xs.length+(zs.take l).length)*(P.ti e).by1≤140737488355328)
  (h:E.run r ((s.add d (.arr (P.ti e).w (xs++zs.take l))).put d (.vw [d] 0 (xs.length+(zs.take l).length))) (ns++[([p],[[d]],[d])])) :
  E.stp { dst:=some d,op:=.call { callee:=.builtin .append,args:=#[x,y],argTypes:=#[t,t] },type:=ty,pos:=pos,after:=af,guard:=none } r s ns .no:=by
 have hgo:∀ s':St,(s'.add d (.arr (P.ti e).w (xs++zs.take l))).put d (.vw [d] 0 (xs.length+(zs.take l).length))=s'.go (some d) (.vw [d] 0 (xs.length+(zs.take l).length)) ⟨[([d],some (.arr (P.ti e).w (xs++zs.take l)))],[d]⟩:=fun s'=>by unfold St.go;rw [lO];rfl
 rw [E.stp_eq]
 refine ⟨.vw [d] 0 (xs.length+(zs.take l).length),([p],⟨[([d],some (.arr (P.ti e).w (xs++zs.take l)))],[d]⟩),fun s' hu hh he B hB ds' β a w hds hs Q'=>?_,fun q hq=>?_,hd.1,?_⟩
 ·have h1:ev s' x=.d (.slx (P.ti e).w xs):=(he x (by simp [Op.operands,Call.operands])).trans hx
  have h2:ev s' y=.vw p 0 l:=(he y (by simp [Op.operands,Call.operands])).trans hy
  have h3:s'.hp p=some (.arr (P.ti e).w zs):=(hh p (by simp)).trans hp
  have hok:AOk P cf { dst:=some d,op:=.call { callee:=.builtin .append,args:=#[x,y],argTypes:=#[t,t] },type:=ty,pos:=pos,after:=af,guard:=none } s' [] (fun _ s2=>s2=(s'.add d (.arr (P.ti e).w (xs++zs.take l))).put d (.vw [d] 0 (xs.length+(zs.take l).length))):=by
   obtain ⟨E0⟩:=zp P cf (fun _ s2=>s2=(s'.add d (.arr (P.ti e).w (xs++zs.take l))).put d (.vw [d] 0 (xs.length+(zs.take l).length)))
   have:=Ew E0 (k:=[]) (pos:=pos) (af:=af) (ty:=ty) hk hz hw ⟨hd.1,hu d (by simp)⟩ h1 (y:=y) (ys:=zs.take l) (by rw [h2];simp [bo,h3]) h0 hl (by rw [E0.run_eq,cj])
   rwa [aB] at this
  refine Oper.wpIn_mono ?_ (hok B hB ds' β a w hds hs Q')
  rintro a' w' ⟨hd',s2,β',hrun,hs2⟩
  obtain ⟨_,s3,β3,rfl,hs3⟩:=hrun B hB ds' β' a' w' hd' hs2
  exact ⟨hd',β3,by rw [← hgo];exact hs3⟩
 ·obtain rfl:=List.mem_singleton.1 hq
  exact hd.2
 ·rw [← E.run_eq,← hgo]
  exact h
end
end Go.Ab

namespace Go.Proofs.YtejpnabbmgpmaaaGreat
open Go.Ab
def aN (w:W):List D→D
 | []=>.nils
 | x::r=>.sl w (x::r)
mutual
def mvD:MV→D
 | .mk k n s l f env self=>.ptr (.agg [i64 k,i64 n,.str s,aN (some 2) (cD l),i64 (f:Int),ar env,.str self])
def ar:ML→D
 | .nil=>.nilp
 | .cons x v r=>.ptr (.agg [.str x,mvD v,ar r])
def cD:ML→List D
 | .nil=>[]
 | .cons x v r=>.agg [.str x,mvD v]::cD r
end
def mB (E0:D) (fu d:Int) (n:Nat) (xs:List D) (nd:Int) (en:D) (v:AV) (o:Int × Int):List (Name × Ob) :=
 [([100],.box [.d E0,.d (i64 fu),.d (i64 d),.vw [101] 0 n,.d (i64 nd),.d en,v,.d (i64 o.1),.d (i64 0),.d (i64 0),.d (.str []),.d .nils,.d (i64 o.2)]),([101],.arr (some 3) xs)]
def ptB:D→Bool
 | .nilp=>true
 | .ptr _=>true
 | _=>false
theorem fo {d:D} (h:ptB d=true):d=.nilp∨∃ x,d=.ptr x:=by
 cases d<;>simp_all [ptB]
theorem dh:∀ e:ML,ptB (ar e)=true
 | .nil=>by rw [ar];rfl
 | .cons _ _ _=>by rw [ar];rfl
theorem qX:∀ v:MV,ptB (mvD v)=true
 | .mk ..=>by rw [mvD];rfl
theorem lK (v:MV):(mvD v).scal=true:=by cases v;rw [mvD];rfl
theorem fg (e:ML):(ar e).scal=true:=by cases e<;>rw [ar]<;>rfl
theorem vy (w:W) (xs:List D):(aN w xs).scal=true:=by cases xs<;>rfl
theorem lP {i:Go.Ab.TI} {d:D} (h:d.scal=true):dE i d 0=if i.k.aF then none else if i.k.agg then none else some d:=by
 unfold dE
 cases d with
 | agg _=>cases h
 | _=>rfl
theorem nq {d:D} (h:d.scal=true):dO d=some [.d d]:=by
 cases d with
 | agg _=>cases h
 | _=>rfl
theorem DD (i:Go.Ab.TI) (v:MV):dE i (mvD v) 0=if i.k.aF then none else if i.k.agg then none else some (mvD v):=lP (lK v)
theorem zZ (i:Go.Ab.TI) (e:ML):dE i (ar e) 0=if i.k.aF then none else if i.k.agg then none else some (ar e):=lP (fg e)
theorem Dq (i:Go.Ab.TI) (w:W) (xs:List D):dE i (aN w xs) 0=if i.k.aF then none else if i.k.agg then none else some (aN w xs):=lP (vy w xs)
theorem Ad (v:MV):dO (mvD v)=some [.d (mvD v)]:=nq (lK v)
theorem xT (e:ML):dO (ar e)=some [.d (ar e)]:=nq (fg e)
attribute [go_sem high] DD zZ Dq
attribute [go_sem ↓] Ad xT lK fg vy
theorem dZ {G} {E0 fu d n xs nd en} {v:D} {o} (nd':Int) (en':D) (he:ptB en'=true):HCall Tryz.prog G 128 [.at [100] 0,.d (i64 nd'),.d en'] (mB E0 fu d n xs nd en (.d v) o) [100,101] (fun r hp'=>r=.d (i64 0)∧hp'=mB E0 fu d n xs nd' en' (.d .nilp) o):=by
 unfold mB
 rcases fo he with rfl | ⟨x,rfl⟩
 ·refine ai Tryz.func128 rfl (by decide +kernel) (by simp [Tryz.ntmps128]) (veil fun E=>?_)
  simp only [go_sem]
  refine ⟨_,_,[100,101],id,⟨rfl,rfl⟩,?_⟩
  simp only [go_sem]
 ·refine ai Tryz.func128 rfl (by decide +kernel) (by simp [Tryz.ntmps128]) (veil fun E=>?_)
  simp only [go_sem]
  refine ⟨_,_,[100,101],id,⟨rfl,rfl⟩,?_⟩
  simp only [go_sem]
theorem ig {G} {E0 fu d n xs nd en} {v:D} {o} (u:D) (hu:ptB u=true):HCall Tryz.prog G 196 [.at [100] 0,.d u] (mB E0 fu d n xs nd en (.d v) o) [100,101] (fun r hp'=>r=.d (i64 0)∧hp'=mB E0 fu d n xs nd en (.d u) o):=by
 unfold mB
 rcases fo hu with rfl | ⟨x,rfl⟩
 ·refine ai Tryz.func196 rfl (by decide +kernel) (by simp [Tryz.ntmps196]) (veil fun E=>?_)
  simp only [go_sem]
  refine ⟨_,_,[100,101],id,⟨rfl,rfl⟩,?_⟩
  simp only [go_sem]
 ·refine ai Tryz.func196 rfl (by decide +kernel) (by simp [Tryz.ntmps196]) (veil fun E=>?_)
  simp only [go_sem]
  refine ⟨_,_,[100,101],id,⟨rfl,rfl⟩,?_⟩
  simp only [go_sem]
theorem Ap {G} {E0 fu d n xs nd en} {v:D} {o} (a b c e f g h:D):HCall Tryz.prog G 196 [.at [100] 0,.at [102] 0] (mB E0 fu d n xs nd en (.d v) o++[([102],.box [.d a,.d b,.d c,.d e,.d f,.d g,.d h])]) [100,101,102]
  (fun r hp'=>r=.d (i64 0)∧hp'=mB E0 fu d n xs nd en (.at [102] 0) o++[([102],.box [.d a,.d b,.d c,.d e,.d f,.d g,.d h])]):=by
 unfold mB
 refine ai Tryz.func196 rfl (by decide +kernel) (by simp [Tryz.ntmps196]) (veil fun E=>?_)
 simp only [go_sem]
 refine ⟨_,_,[100,101,102],id,⟨rfl,rfl⟩,?_⟩
 simp only [go_sem]
theorem zB {G} {E0 fu d n xs nd en} {v:D} {o} (a b c f g h y:D):HCall Tryz.prog G 196 [.at [100] 0,.at [102] 0] (mB E0 fu d n xs nd en (.d v) o++[([102],.box [.d a,.d b,.d c,.vw [103] 0 1,.d f,.d g,.d h]),([103],.arr (some 2) [y])]) [100,101,102,103]
  (fun r hp'=>r=.d (i64 0)∧hp'=mB E0 fu d n xs nd en (.at [102] 0) o++[([102],.box [.d a,.d b,.d c,.vw [103] 0 1,.d f,.d g,.d h]),([103],.arr (some 2) [y])]):=by
 unfold mB
 refine ai Tryz.func196 rfl (by decide +kernel) (by simp [Tryz.ntmps196]) (veil fun E=>?_)
 simp only [go_sem]
 refine ⟨_,_,[100,101,102,103],id,⟨rfl,rfl⟩,?_⟩
 simp only [go_sem]
theorem CX {G} {E0 fu n xs nd en} {v:D} {o}:HCall Tryz.prog G 248 [.at [100] 0] (mB E0 fu fu n xs nd en (.d v) o) [100,101] (fun r hp'=>r=.d (.bool false)∧hp'=mB E0 fu fu n xs nd en (.d v) o):=by
 unfold mB
 refine ai Tryz.func248 rfl (by decide +kernel) (by simp [Tryz.ntmps248]) (veil fun E=>?_)
 simp only [go_sem]
 refine ah mixed E fun X=>?_
 simp only [go_sem]
 refine aA X (d:=4) [100] 0 none _ (by simp only [go_sem]) rfl rfl ?_
 simp only [go_sem]
 refine aA X (d:=8) [100] 0 none _ (by simp only [go_sem]) rfl rfl ?_
 simp only [go_sem]
 refine ⟨by decide +kernel,?_⟩
 refine ⟨_,_,[100,101],id,⟨rfl,rfl⟩,?_⟩
 simp only [go_sem]
theorem yb {G} {E0 fu n xs nd en} {v:D} {o} {d:Nat} (hd:(d:Int)≠fu) (hl:d≤1000000):HCall Tryz.prog G 248 [.at [100] 0] (mB E0 fu (d:Int) n xs nd en (.d v) o) [100,101] (fun r hp'=>r=.d (.bool true)∧hp'=mB E0 fu ((d+1:Nat):Int) n xs nd en (.d v) o):=by
 unfold mB
 refine ai Tryz.func248 rfl (by decide +kernel) (by simp [Tryz.ntmps248]) (veil fun E=>?_)
 simp only [go_sem]
 refine ah mixed E fun X=>?_
 simp only [go_sem]
 refine aA X (d:=4) [100] 0 none _ (by simp only [go_sem]) rfl rfl ?_
 simp only [go_sem]
 refine aA X (d:=8) [100] 0 none _ (by simp only [go_sem]) rfl rfl ?_
 simp only [go_sem]
 rw [decide_eq_false hd]
 refine ⟨by decide +kernel,?_⟩
 simp only [go_sem]
 rw [ao (n:=(d:Int)+1) ⟨by omega,by omega⟩]
 refine ⟨_,_,[100,101],id,⟨rfl,rfl⟩,?_⟩
 simp only [go_sem]
 rfl
theorem aX {G} {E0 fu d n xs nd en} {v:D} {o} (k:Int):HCall Tryz.prog G 249 [.at [100] 0,.d (i64 k)] (mB E0 fu d n xs nd en (.d v) o) [100,101] (fun r hp'=>r=.d (i64 1)∧hp'=mB E0 fu d n xs nd en (.d v) (k,d)):=by
 unfold mB
 refine ai Tryz.func249 rfl (by decide +kernel) (by simp [Tryz.ntmps249]) (veil fun E=>?_)
 simp only [go_sem]
 refine ⟨_,_,[100,101],id,⟨rfl,rfl⟩,?_⟩
 simp only [go_sem]
theorem HCall.FZ {G} {f:FuncId} {args:List AV} {nm:Name} {x:D} (h:HCall Tryz.prog G f args [] [] (fun r hp'=>r=.at nm 0∧hp'=[(nm,.box (x.cells.map .d))])) (hs:(x.cells.all D.scal)=true) :
  HCall Tryz.prog G f args [] [] (fun r hp'=>(r=.d (.ptr x))∧r.inU []=true∧hp'=[]):=by
 refine HCall.fB h nm x ?_
 rintro r hp' ⟨rfl,rfl⟩
 refine ⟨by simp [mk,lkA],hs,?_,?_,?_⟩
 ·simp [AV.frB]
 ·simp [AV.frB,AV.inU]
 ·simp [gR]
theorem tv {G} (x:List UInt8) (a b:D) (ha:ptB a=true) (hb:ptB b=true):HP Tryz.prog G 250 [a,.str x,b] (fun r=>r=.d (.ptr (.agg [.str x,b,a]))):=by
 refine HCall.FZ (nm:=[11]) (x:=.agg [.str x,b,a]) ?_ ?_
 ·rcases fo ha with rfl | ⟨y,rfl⟩<;>rcases fo hb with rfl | ⟨z,rfl⟩
  ·refine ai Tryz.func250 rfl (by decide +kernel) (by simp [Tryz.ntmps250]) (veil fun E=>?_)
   simp only [go_sem]
   refine ⟨_,_,[11],id,⟨rfl,rfl⟩,?_⟩
   simp only [go_sem]
  ·refine ai Tryz.func250 rfl (by decide +kernel) (by simp [Tryz.ntmps250]) (veil fun E=>?_)
   simp only [go_sem]
   refine ⟨_,_,[11],id,⟨rfl,rfl⟩,?_⟩
   simp only [go_sem]
  ·refine ai Tryz.func250 rfl (by decide +kernel) (by simp [Tryz.ntmps250]) (veil fun E=>?_)
   simp only [go_sem]
   refine ⟨_,_,[11],id,⟨rfl,rfl⟩,?_⟩
   simp only [go_sem]
  ·refine ai Tryz.func250 rfl (by decide +kernel) (by simp [Tryz.ntmps250]) (veil fun E=>?_)
   simp only [go_sem]
   refine ⟨_,_,[11],id,⟨rfl,rfl⟩,?_⟩
   simp only [go_sem]
 ·rcases fo ha with rfl | ⟨y,rfl⟩<;>rcases fo hb with rfl | ⟨z,rfl⟩<;>rfl
theorem pH {G} (e:ML) (x:List UInt8) (v:MV):HP Tryz.prog G 250 [ar e,.str x,mvD v] (fun r=>r=.d (ar (.cons x v e))):=by
 rw [ar]
 exact tv x _ _ (dh e) (qX v)
theorem Cp {G} (e:ML) (x:List UInt8):HP Tryz.prog G 251 [ar e,.str x] (fun r=>r=.d (match dD e x with | some v=>mvD v | none=>.nilp)):=by
 generalize hR:dD e x=R
 refine al Tryz.func251 rfl (by decide +kernel) (by simp [Tryz.ntmps251]) (veil fun E=>?_)
 simp only [go_sem]
 refine dX E (X:={ q:ML // dD q x=R }) (fun y=>[(0,.d (ar y.1)),(1,.d (.str x)),(4,.d .nilp)]) (fun y=>y.1.len) rfl ⟨e,hR⟩ ?_ ?_
 ·simp only [go_sem]
  all_goals rfl
 rintro ⟨q,hq⟩ E'
 simp only at hq ⊢
 simp only [go_sem]
 cases q with
 | nil =>
   rw [ar]
   refine qp E' (e:=295) true (by rw [zm]) (by simp only [go_sem]) rfl ?_
   simp only [go_sem]
   rw [← hq]
   rfl
 | cons y v r =>
   rw [ar]
   refine qp E' (e:=295) false (by rw [zm]) (by simp only [go_sem]) rfl ?_
   simp only [go_sem]
   refine bl E' (by simp only [go_sem]) rfl ?_
   simp only [go_sem]
   rw [dD] at hq
   refine aI E' (fun h=>?_) (fun h=>?_)<;>simp only [go_sem]
   ·refine bl E' (by simp only [go_sem]) rfl ?_
    simp only [go_sem]
    rw [if_pos (by simpa using h)] at hq
    rw [← hq]
   ·refine bl E' (by simp only [go_sem]) rfl ?_
    simp only [go_sem]
    rw [if_neg (by simpa using h)] at hq
    exact ⟨⟨r,hq⟩,by show r.len<r.len+1;omega,rfl⟩
end Go.Proofs.YtejpnabbmgpmaaaGreat

namespace Go.Proofs.YtejpnabbmgpmaaaGreat
open Go.Ab
theorem lQ {G} (n:EN) (hl:n.l.length≤900000):HP Tryz.prog G 194 [enD n] (fun r=>r=.d (.sl none ((aq n).map i64))):=by
 refine HP.wkr (Q:=fun r=>r=.d (.sl none ((aq n).map i64))∨(r=.d .nils∧aq n=[])) ?_ (fun r hr=>?_)
 ·have hkc:=jJ (G:=G) n (by omega)
  generalize hR:aq n=R
  unfold aq at hR
  unfold enD efD at hkc ⊢
  refine bP Tryz.func194 rfl (by decide +kernel) (by simp [Tryz.ntmps194]) (veil fun E=>?_)
  simp only [go_sem]
  refine aj E (fun k6=>?_) (fun k6=>?_)<;>simp only [go_sem]
  ·rw [if_pos (.inl k6)] at hR
   rw [decide_eq_true k6]
   simp only [go_sem]
   refine ab E _ [] [] hkc rfl rfl ⟨by simp only [go_sem],by rw [aa];decide⟩ rfl (by simp only [go_sem]) (by simp only [go_sem]) ?_
   rintro _ _ ⟨rfl,rfl⟩
   simp only [go_sem]
   rw [← hR]
   refine ⟨[([10,0],none,(ak n).map i64)],?_⟩
   simp only [go_sem]
   exact .inl trivial
  refine aj E (fun k10=>?_) (fun k10=>?_)<;>simp only [go_sem]
  ·rw [if_pos (.inr (.inl k10))] at hR
   rw [decide_eq_true k10]
   simp only [go_sem]
   refine ab E _ [] [] hkc rfl rfl ⟨by simp only [go_sem],by rw [aa];decide⟩ rfl (by simp only [go_sem]) (by simp only [go_sem]) ?_
   rintro _ _ ⟨rfl,rfl⟩
   simp only [go_sem]
   rw [← hR]
   refine ⟨[([10,0],none,(ak n).map i64)],?_⟩
   simp only [go_sem]
   exact .inl trivial
  by_cases k11:n.k=11
  ·rw [if_pos (.inr (.inr k11))] at hR
   rw [decide_eq_true k11]
   simp only [go_sem]
   refine ab E _ [] [] hkc rfl rfl ⟨by simp only [go_sem],by rw [aa];decide⟩ rfl (by simp only [go_sem]) (by simp only [go_sem]) ?_
   rintro _ _ ⟨rfl,rfl⟩
   simp only [go_sem]
   rw [← hR]
   refine ⟨[([10,0],none,(ak n).map i64)],?_⟩
   simp only [go_sem]
   exact .inl trivial
  rw [decide_eq_false k11]
  rw [if_neg (by omega)] at hR
  simp only [go_sem]
  refine aj E (fun k7=>?_) (fun k7=>?_)<;>simp only [go_sem]
  ·rw [if_pos (.inl k7)] at hR
   rw [decide_eq_true k7]
   simp only [go_sem]
   rw [← hR]
   refine ⟨[([19],none,[i64 n.a])],?_⟩
   simp only [go_sem]
  refine aj E (fun k9=>?_) (fun k9=>?_)<;>simp only [go_sem]
  ·rw [if_pos (.inr (.inl k9))] at hR
   rw [decide_eq_true k9]
   simp only [go_sem]
   rw [← hR]
   refine ⟨[([19],none,[i64 n.a])],?_⟩
   simp only [go_sem]
  refine aj E (fun k12=>?_) (fun k12=>?_)<;>simp only [go_sem]
  ·rw [if_pos (.inr (.inr (.inl k12)))] at hR
   rw [decide_eq_true k12]
   simp only [go_sem]
   rw [← hR]
   refine ⟨[([19],none,[i64 n.a])],?_⟩
   simp only [go_sem]
  refine aj E (fun k13=>?_) (fun k13=>?_)<;>simp only [go_sem]
  ·rw [if_pos (.inr (.inr (.inr (.inl k13))))] at hR
   rw [decide_eq_true k13]
   simp only [go_sem]
   rw [← hR]
   refine ⟨[([19],none,[i64 n.a])],?_⟩
   simp only [go_sem]
  by_cases k14:n.k=14
  ·rw [if_pos (.inr (.inr (.inr (.inr k14))))] at hR
   rw [decide_eq_true k14]
   simp only [go_sem]
   rw [← hR]
   refine ⟨[([19],none,[i64 n.a])],?_⟩
   simp only [go_sem]
  rw [decide_eq_false k14]
  rw [if_neg (by omega)] at hR
  simp only [go_sem]
  rw [← hR]
  refine ⟨[],?_⟩
  simp only [go_sem]
  exact .inr trivial
 ·rcases hr with hr | ⟨hr,he⟩
  ·exact ⟨_,_,hr,.refl _,rfl⟩
  ·exact ⟨_,_,hr,.nils none,by rw [he];rfl⟩
def ML.ps:ML→List (List UInt8 × MV)
 | .nil=>[]
 | .cons x v r=>(x,v)::r.ps
def pD (q:List UInt8 × MV):D:=.agg [.str q.1,mvD q.2]
theorem sk:∀ l:ML,cD l=l.ps.map pD
 | .nil=>by rw [cD];rfl
 | .cons x v r=>by rw [cD,sk r];rfl
theorem nj:∀ l:ML,l.ps.length=l.len
 | .nil=>rfl
 | .cons x v r=>by rw [ML.ps,List.length_cons,nj r,ML.len]
theorem cX (k n:Int) (s:List UInt8) (l:ML) (f:Nat) (env:ML) (self:List UInt8):mvD (.mk k n s l f env self)=.ptr (.agg [i64 k,i64 n,.str s,aN (some 2) (l.ps.map pD),i64 (f:Int),ar env,.str self]):=by rw [mvD,sk]
theorem DV (w:W) (xs:List D):Wk (aN w xs) (.sl w xs):=by
 cases xs with
 | nil=>exact .nils _
 | cons x r=>exact .refl _
def Ay (l:List (List UInt8 × MV)) (p:List UInt8 × MV→Bool):Int:=if l.findIdx p<l.length then (l.findIdx p:Int) else -1
theorem Hl {l:List (List UInt8 × MV)} {p:List UInt8 × MV→Bool} {i:Nat} (hi:i<l.length) (ha:(l.take i).any p=false) (hp:p l[i]=true):l.findIdx p=i:=by
 refine (List.findIdx_eq hi).2 ⟨hp,fun j hji=>?_⟩
 have:=List.any_eq_false.1 ha l[j] (List.mem_take_iff_getElem.2 ⟨j,by omega,rfl⟩)
 simpa using this
theorem noP {l:List (List UInt8 × MV)} {p:List UInt8 × MV→Bool} (ha:l.any p=false):¬ l.findIdx p<l.length:=fun h=>by
 have:=List.findIdx_getElem (w:=h)
 have:=List.any_eq_false.1 ha _ (List.getElem_mem h)
 simp_all
theorem qq {l:List (List UInt8 × MV)} {i:Nat} (h:i<l.length):(l.map pD).getD i .nilp=.agg [.str l[i].1,mvD l[i].2]:=by simp [h,pD]
theorem CC {G} (l:List (List UInt8 × MV)) (p:List UInt8 × MV→Bool) (f:Nat) (caps:List D) (hl:l.length≤1000000) (hc:∀ x∈l,HP Tryz.prog G f (pD x::caps) (fun r=>r=.d (.bool (p x)))) :
  HP Tryz.prog G 283 [aN (some 2) (l.map pD),.clo f caps] (fun r=>r=.d (i64 (Ay l p))):=by
 refine HP.wk (bs:=[.sl (some 2) (l.map pD),.clo f caps]) ?_ ⟨DV _ _,.refl _,trivial⟩
 refine al Tryz.func283 rfl (by decide +kernel) (by simp [Tryz.ntmps283]) (veil fun E=>?_)
 simp only [go_sem]
 refine dX E (X:={ i:Nat // i≤l.length∧(l.take i).any p=false }) (fun x=>[(0,.d (.sl (some 2) (l.map pD))),(1,.d (.clo f caps)),(6,.d (.sl (some 2) (l.map pD))),(7,.d (i64 l.length)),(8,.d (i64 x.1))]) (fun x=>l.length-x.1) rfl ⟨0,Nat.zero_le _,by simp⟩ ?_ ?_
 ·simp only [go_sem]
  all_goals rfl
 rintro ⟨i,hi,hab⟩ E'
 simp only [go_sem]
 refine aj E' (fun h1=>?_) (fun h1=>?_)<;>simp only [go_sem]
 ·have h1':i<l.length:=by omega
  refine ⟨⟨by omega,by omega⟩,?_⟩
  rw [qq h1']
  simp only [go_sem]
  refine jl E' (hc l[i] (List.getElem_mem h1')) rfl rfl (by simp) ?_
  rintro _ rfl
  simp only [go_sem]
  refine aI E' (fun h2=>?_) (fun h2=>?_)<;>simp only [go_sem]
  ·unfold Ay
   rw [Hl h1' hab h2,if_pos h1']
  ·refine ⟨⟨i+1,by omega,fG h1' hab h2⟩,by show l.length-(i+1)<_;omega,?_⟩
   rw [ao ⟨by omega,by omega⟩];rfl
 ·have h3:i=l.length:=by omega
  subst h3
  rw [List.take_length] at hab
  unfold Ay
  rw [if_neg (noP hab)]
theorem Ce {G} (q:List UInt8 × MV) (n:EN):HP Tryz.prog G 284 [pD q,.ptr (enD n)] (fun r=>r=.d (.bool (q.1 == n.name))):=by
 rw [bW n]
 unfold pD
 refine al Tryz.func284 rfl (by decide +kernel) (by simp [Tryz.ntmps284]) (veil fun E=>?_)
 simp only [go_sem]
theorem Bw {G} (f:EF) (v:MV):HP Tryz.prog G 285 [fD f,.ptr (mvD v)] (fun r=>r=.d (.bool (f.nm == v.s))):=by
 cases v with
 | mk k n s l g env self =>
   rw [cX]
   generalize ar env=en
   generalize aN (some 2) (l.ps.map pD)=L
   unfold fD
   refine al Tryz.func285 rfl (by decide +kernel) (by simp [Tryz.ntmps285]) (veil fun E=>?_)
   simp only [go_sem]
   refine ah mixed E fun X=>?_
   simp only [go_sem]
   refine cC X (by simp only [go_sem]) rfl ?_
   simp only [go_sem]
   refine ⟨by decide +kernel,?_⟩
   rfl
theorem BX {G} (xs:List D):HP Tryz.prog G 198 [.sl none xs] (fun r=>r=.d (.slx none xs)):=by
 refine al Tryz.func198 rfl (by decide +kernel) (by simp [Tryz.ntmps198]) (veil fun E=>?_)
 simp only [go_sem]
 refine FE E (t:=226) (e:=124) (wf:=none) (xs:=xs) (by rw [uH]) (by rw [bO];rfl) (by simp only [go_sem]) rfl (by simp only [go_sem]) (by simp only [go_sem]) ?_
 simp only [go_sem]
end Go.Proofs.YtejpnabbmgpmaaaGreat

namespace Go.Proofs.YtejpnabbmgpmaaaGreat
open Go.Ab
theorem or_cons (w:W) (x:D) (r:List D):aN w (x::r)=.sl w (x::r):=rfl
def au:Option MV→D
 | none=>.nilp
 | some v=>mvD v
def mH (ns:List EN) (fu d:Nat) (n:Nat) (xs:List D) (s:MS) (o:Int × Int):List (Name × Ob):=mB (.sl (some 9) (ns.map enD)) (fu:Int) (d:Int) n xs (s.node:Int) (ar s.env) (.d (au s.v)) o
def b8 (fu d:Nat) (s:MS):MR→Int × MS × Nat × (Int × Int)
 | .go c t=>if d+c≤fu then (0,t,d+c,(0,0)) else (1,s,fu,(3,(fu:Int)))
 | .fin c k=>if d+c≤fu then (1,s,d+c,(k,((d+c:Nat):Int))) else (1,s,fu,(3,(fu:Int)))
theorem a8 {fu d c:Nat} {s t:MS} (h:d+c≤fu):b8 fu d s (.go c t)=(0,t,d+c,(0,0)):=if_pos h
theorem bn {fu d c:Nat} {s t:MS} (h:fu<d+c):b8 fu d s (.go c t)=(1,s,fu,(3,(fu:Int))):=if_neg (by omega)
theorem br {fu d c:Nat} {k:Int} {s:MS} (h:d+c≤fu):b8 fu d s (.fin c k)=(1,s,d+c,(k,((d+c:Nat):Int))):=if_pos h
theorem aW {fu d c:Nat} {k:Int} {s:MS} (h:fu<d+c):b8 fu d s (.fin c k)=(1,s,fu,(3,(fu:Int))):=if_neg (by omega)
def Turn (G:List (Nat × Obj)) (ns:List EN) (f:Nat) (args:List D) (s:MS) (R:MR):Prop :=
 ∀ (fu d n:Nat) (xs:List D),d≤fu→fu≤1000→HCall Tryz.prog G f (.at [100] 0::args.map .d) (mH ns fu d n xs s (0,0)) [100,101] (fun r hp'=>r=.d (i64 (b8 fu d s R).1)∧hp'=mH ns fu (b8 fu d s R).2.2.1 n xs (b8 fu d s R).2.1 (b8 fu d s R).2.2.2)
theorem dt {G} {E0 n xs nd en} {v:D} {o} {fu d:Nat} (h:d=fu):HCall Tryz.prog G 248 [.at [100] 0] (mB E0 (fu:Int) (d:Int) n xs nd en (.d v) o) [100,101] (fun r hp'=>r=.d (.bool false)∧hp'=mB E0 (fu:Int) (d:Int) n xs nd en (.d v) o):=by
 subst h
 exact CX
theorem b9 {G} {E0 n xs nd en} {v:D} {o} {fu d:Nat} (h:d<fu) (hl:fu≤1000):HCall Tryz.prog G 248 [.at [100] 0] (mB E0 (fu:Int) (d:Int) n xs nd en (.d v) o) [100,101] (fun r hp'=>r=.d (.bool true)∧hp'=mB E0 (fu:Int) ((d+1:Nat):Int) n xs nd en (.d v) o):=yb (by omega) (by omega)
theorem BH {G} {ns:List EN} {s:MS} (nd:EN) (i:Int) (env:ML) (c:MV) (h:List MV) (hb:0≤nd.b) (hcc:0≤nd.c):Turn G ns 253 [enD nd,.agg [i64 i,ar env,aN none ((c::h).map mvD)]] s
  (if c.k=2 then .go 1 ⟨(if c.n=1 then nd.b else nd.c).toNat,env,none,s.st⟩ else .fin 0 4):=by
 intro fu d n xs hd hf
 obtain ⟨R,hR⟩:∃ R,R=b8 fu d s ((if c.k=2 then .go 1 ⟨(if c.n=1 then nd.b else nd.c).toNat,env,none,s.st⟩ else .fin 0 4)):=⟨_,rfl⟩
 rw [← hR]
 obtain ⟨sn,se,sv,st⟩:=s
 unfold mH mB
 dsimp only [List.map_cons,List.map_nil] at hR ⊢
 have cf:=dt (G:=G) (E0:=.sl (some 9) (ns.map enD)) (n:=n) (xs:=xs) (nd:=(sn:Int)) (en:=ar se) (v:=au sv) (o:=(0,0)) (fu:=fu) (d:=d)
 have cy:=b9 (G:=G) (E0:=.sl (some 9) (ns.map enD)) (n:=n) (xs:=xs) (nd:=(sn:Int)) (en:=ar se) (v:=au sv) (o:=(0,0)) (fu:=fu) (d:=d)
 have c3:=aX (G:=G) (E0:=.sl (some 9) (ns.map enD)) (fu:=(fu:Int)) (d:=(d:Int)) (n:=n) (xs:=xs) (nd:=(sn:Int)) (en:=ar se) (v:=au sv) (o:=(0,0)) 3
 have c4:=aX (G:=G) (E0:=.sl (some 9) (ns.map enD)) (fu:=(fu:Int)) (d:=(d:Int)) (n:=n) (xs:=xs) (nd:=(sn:Int)) (en:=ar se) (v:=au sv) (o:=(0,0)) 4
 unfold mB at cf cy c3 c4
 rw [bW,show (c::h).map mvD=mvD c::h.map mvD from rfl,or_cons]
 generalize hk:c.k=ck at *
 generalize hn:c.n=cn at *
 generalize hs:c.s=cs at *
 generalize hl:c.l=cl' at *
 generalize hf':c.f=cf' at *
 generalize he':c.env=ce at *
 generalize hq:c.self=cself at *
 cases c with
 | mk k1 n1 s1 l1 f1 e1 q1 =>
 obtain rfl:k1=ck:=hk
 obtain rfl:n1=cn:=hn
 obtain rfl:s1=cs:=hs
 obtain rfl:l1=cl':=hl
 obtain rfl:f1=cf':=hf'
 obtain rfl:e1=ce:=he'
 obtain rfl:q1=cself:=hq
 rw [cX]
 refine ai Tryz.func253 rfl (by decide +kernel) (by simp [Tryz.ntmps253]) (veil fun E=>?_)
 simp only [go_sem]
 refine ⟨by omega,?_⟩
 refine bl E (by simp only [go_sem]) rfl ?_
 simp only [go_sem]
 refine aj E (fun k2=>?_) (fun k2=>?_)<;>simp only [go_sem]
 ·rw [if_neg k2] at hR
  refine ab E _ _ _ c4 rfl rfl ⟨by simp only [go_sem],by first | (rw [aa];decide) | (simp only [go_sem]<;>(try rw [aa])<;>decide)⟩ (by simp only [go_sem]) (by simp only [go_sem]) (by simp only [go_sem]) ?_
  rintro _ _ ⟨rfl,rfl⟩
  refine ⟨by simp only [go_sem];try omega,?_⟩
  simp only [go_sem]
  rw [br (by omega),Nat.add_zero] at hR
  subst hR
  refine ⟨_,_,[100,101],id,⟨rfl,rfl⟩,?_⟩
  simp only [go_sem]
 ·have k2:k1=2:=by simpa using k2
  rw [if_pos k2] at hR
  by_cases hdf:d=fu
  ·refine ab E _ _ _ (cf hdf) rfl rfl ⟨by simp only [go_sem],by first | (rw [aa];decide) | (simp only [go_sem]<;>(try rw [aa])<;>decide)⟩ (by simp only [go_sem]) (by simp only [go_sem]) (by simp only [go_sem]) ?_
   rintro _ _ ⟨rfl,rfl⟩
   refine ⟨by simp only [go_sem];try omega,?_⟩
   simp only [go_sem]
   refine ab E _ _ _ c3 rfl rfl ⟨by simp only [go_sem],by first | (rw [aa];decide) | (simp only [go_sem]<;>(try rw [aa])<;>decide)⟩ (by simp only [go_sem]) (by simp only [go_sem]) (by simp only [go_sem]) ?_
   rintro _ _ ⟨rfl,rfl⟩
   refine ⟨by simp only [go_sem];try omega,?_⟩
   simp only [go_sem]
   first | rw [bn (by omega)] at hR | rw [aW (by omega)] at hR
   subst hR hdf
   refine ⟨_,_,[100,101],id,⟨rfl,rfl⟩,?_⟩
   simp only [go_sem]
  refine ab E _ _ _ (cy (by omega) hf) rfl rfl ⟨by simp only [go_sem],by first | (rw [aa];decide) | (simp only [go_sem]<;>(try rw [aa])<;>decide)⟩ (by simp only [go_sem]) (by simp only [go_sem]) (by simp only [go_sem]) ?_
  rintro _ _ ⟨rfl,rfl⟩
  refine ⟨by simp only [go_sem];try omega,?_⟩
  simp only [go_sem]
  have cl:=fun (nd':Int) (en':D) (he:ptB en'=true)=>dZ (G:=G) (E0:=.sl (some 9) (ns.map enD)) (fu:=(fu:Int)) (d:=((d+1:Nat):Int)) (n:=n) (xs:=xs) (nd:=(sn:Int)) (en:=ar se) (v:=au sv) (o:=(0,0)) nd' en' he
  unfold mB at cl
  refine bl E (by simp only [go_sem]) rfl ?_
  simp only [go_sem]
  refine aj E (fun k1=>?_) (fun k1=>?_)<;>simp only [go_sem]
  ·rw [if_pos k1] at hR
   refine ab E _ _ _ (cl nd.b (ar env) (dh env)) rfl rfl ⟨by simp only [go_sem],by first | (rw [aa];decide) | (simp only [go_sem]<;>(try rw [aa])<;>decide)⟩ (by simp only [go_sem]) (by simp only [go_sem]) (by simp only [go_sem]) ?_
   rintro _ _ ⟨rfl,rfl⟩
   refine ⟨by simp only [go_sem];try omega,?_⟩
   simp only [go_sem]
   rw [a8 (by omega)] at hR
   subst hR
   dsimp only [au]
   rw [show ((nd.b.toNat:Nat):Int)=nd.b by omega]
   refine ⟨_,_,[100,101],id,⟨rfl,rfl⟩,?_⟩
   simp only [go_sem]
  ·rw [if_neg k1] at hR
   refine ab E _ _ _ (cl nd.c (ar env) (dh env)) rfl rfl ⟨by simp only [go_sem],by first | (rw [aa];decide) | (simp only [go_sem]<;>(try rw [aa])<;>decide)⟩ (by simp only [go_sem]) (by simp only [go_sem]) (by simp only [go_sem]) ?_
   rintro _ _ ⟨rfl,rfl⟩
   refine ⟨by simp only [go_sem];try omega,?_⟩
   simp only [go_sem]
   rw [a8 (by omega)] at hR
   subst hR
   dsimp only [au]
   rw [show ((nd.c.toNat:Nat):Int)=nd.c by omega]
   refine ⟨_,_,[100,101],id,⟨rfl,rfl⟩,?_⟩
   simp only [go_sem]
theorem DH {G} {ns:List EN} {s:MS} (c w:MV) (hc:c.k=4→c.f<ns.length∧0≤(ndE ns c.f).a) (_hN:ns.length≤1000000):Turn G ns 252 [mvD c,mvD w] s
  (if c.k=4 then (if c.self=[] then .go 1 ⟨(ndE ns c.f).a.toNat,.cons (ndE ns c.f).name w c.env,none,s.st⟩
   else .go 2 ⟨(ndE ns c.f).a.toNat,.cons c.self c (.cons (ndE ns c.f).name w c.env),none,s.st⟩) else .fin 0 4):=by
 intro fu d n xs hd hf
 obtain ⟨R,hR⟩:∃ R,R=b8 fu d s ((if c.k=4 then (if c.self=[] then .go 1 ⟨(ndE ns c.f).a.toNat,.cons (ndE ns c.f).name w c.env,none,s.st⟩ else .go 2 ⟨(ndE ns c.f).a.toNat,.cons c.self c (.cons (ndE ns c.f).name w c.env),none,s.st⟩) else .fin 0 4)):=⟨_,rfl⟩
 rw [← hR]
 obtain ⟨sn,se,sv,st⟩:=s
 unfold mH mB
 dsimp only [List.map_cons,List.map_nil] at hR ⊢
 have cf:=dt (G:=G) (E0:=.sl (some 9) (ns.map enD)) (n:=n) (xs:=xs) (nd:=(sn:Int)) (en:=ar se) (v:=au sv) (o:=(0,0)) (fu:=fu) (d:=d)
 have cy:=b9 (G:=G) (E0:=.sl (some 9) (ns.map enD)) (n:=n) (xs:=xs) (nd:=(sn:Int)) (en:=ar se) (v:=au sv) (o:=(0,0)) (fu:=fu) (d:=d)
 have c3:=aX (G:=G) (E0:=.sl (some 9) (ns.map enD)) (fu:=(fu:Int)) (d:=(d:Int)) (n:=n) (xs:=xs) (nd:=(sn:Int)) (en:=ar se) (v:=au sv) (o:=(0,0)) 3
 have c4:=aX (G:=G) (E0:=.sl (some 9) (ns.map enD)) (fu:=(fu:Int)) (d:=(d:Int)) (n:=n) (xs:=xs) (nd:=(sn:Int)) (en:=ar se) (v:=au sv) (o:=(0,0)) 4
 unfold mB at cf cy c3 c4
 have he:ar (.cons c.self c (.cons (ndE ns c.f).name w c.env))=.ptr (.agg [.str c.self,mvD c,ar (.cons (ndE ns c.f).name w c.env)]):=by rw [ar]
 have hp:=qX c
 have cw:=pH (G:=G) c.env (ndE ns c.f).name w
 have cv:=tv (G:=G) c.self (ar (.cons (ndE ns c.f).name w c.env)) (mvD c) (dh _) hp
 rw [← he] at cv
 clear he
 generalize hk:c.k=ck at *
 generalize hn:c.n=cn at *
 generalize hs:c.s=cs at *
 generalize hl:c.l=cl' at *
 generalize hf':c.f=cf' at *
 generalize he':c.env=ce at *
 generalize hq:c.self=cself at *
 cases c with
 | mk k1 n1 s1 l1 f1 e1 q1 =>
 obtain rfl:k1=ck:=hk
 obtain rfl:n1=cn:=hn
 obtain rfl:s1=cs:=hs
 obtain rfl:l1=cl':=hl
 obtain rfl:f1=cf':=hf'
 obtain rfl:e1=ce:=he'
 obtain rfl:q1=cself:=hq
 generalize (ML.cons q1 (.mk k1 n1 s1 l1 f1 e1 q1) (.cons (ndE ns f1).name w e1))=en2 at *
 generalize (ML.cons (ndE ns f1).name w e1)=en1 at *
 rw [cX] at cv ⊢
 refine ai Tryz.func252 rfl (by decide +kernel) (by simp [Tryz.ntmps252]) (veil fun E=>?_)
 simp only [go_sem]
 refine bl E (by simp only [go_sem]) rfl ?_
 simp only [go_sem]
 refine aj E (fun k4=>?_) (fun k4=>?_)<;>simp only [go_sem]
 ·rw [if_neg k4] at hR
  refine ab E _ _ _ c4 rfl rfl ⟨by simp only [go_sem],by first | (rw [aa];decide) | (simp only [go_sem]<;>(try rw [aa])<;>decide)⟩ (by simp only [go_sem]) (by simp only [go_sem]) (by simp only [go_sem]) ?_
  rintro _ _ ⟨rfl,rfl⟩
  refine ⟨by simp only [go_sem];try omega,?_⟩
  simp only [go_sem]
  rw [br (by omega),Nat.add_zero] at hR
  subst hR
  refine ⟨_,_,[100,101],id,⟨rfl,rfl⟩,?_⟩
  simp only [go_sem]
 ·have k4:k1=4:=by simpa using k4
  rw [if_pos k4] at hR
  obtain ⟨hfl,ha⟩:=hc k4
  have hg:=bF hfl
  generalize ndE ns f1=nf at *
  by_cases hdf:d=fu
  ·split at hR
   ·refine ab E _ _ _ (cf hdf) rfl rfl ⟨by simp only [go_sem],by first | (rw [aa];decide) | (simp only [go_sem]<;>(try rw [aa])<;>decide)⟩ (by simp only [go_sem]) (by simp only [go_sem]) (by simp only [go_sem]) ?_
    rintro _ _ ⟨rfl,rfl⟩
    refine ⟨by simp only [go_sem];try omega,?_⟩
    simp only [go_sem]
    refine ab E _ _ _ c3 rfl rfl ⟨by simp only [go_sem],by first | (rw [aa];decide) | (simp only [go_sem]<;>(try rw [aa])<;>decide)⟩ (by simp only [go_sem]) (by simp only [go_sem]) (by simp only [go_sem]) ?_
    rintro _ _ ⟨rfl,rfl⟩
    refine ⟨by simp only [go_sem];try omega,?_⟩
    simp only [go_sem]
    first | rw [bn (by omega)] at hR | rw [aW (by omega)] at hR
    subst hR hdf
    refine ⟨_,_,[100,101],id,⟨rfl,rfl⟩,?_⟩
    simp only [go_sem]
   ·refine ab E _ _ _ (cf hdf) rfl rfl ⟨by simp only [go_sem],by first | (rw [aa];decide) | (simp only [go_sem]<;>(try rw [aa])<;>decide)⟩ (by simp only [go_sem]) (by simp only [go_sem]) (by simp only [go_sem]) ?_
    rintro _ _ ⟨rfl,rfl⟩
    refine ⟨by simp only [go_sem];try omega,?_⟩
    simp only [go_sem]
    refine ab E _ _ _ c3 rfl rfl ⟨by simp only [go_sem],by first | (rw [aa];decide) | (simp only [go_sem]<;>(try rw [aa])<;>decide)⟩ (by simp only [go_sem]) (by simp only [go_sem]) (by simp only [go_sem]) ?_
    rintro _ _ ⟨rfl,rfl⟩
    refine ⟨by simp only [go_sem];try omega,?_⟩
    simp only [go_sem]
    first | rw [bn (by omega)] at hR | rw [aW (by omega)] at hR
    subst hR hdf
    refine ⟨_,_,[100,101],id,⟨rfl,rfl⟩,?_⟩
    simp only [go_sem]
  refine ab E _ _ _ (cy (by omega) hf) rfl rfl ⟨by simp only [go_sem],by first | (rw [aa];decide) | (simp only [go_sem]<;>(try rw [aa])<;>decide)⟩ (by simp only [go_sem]) (by simp only [go_sem]) (by simp only [go_sem]) ?_
  rintro _ _ ⟨rfl,rfl⟩
  refine ⟨by simp only [go_sem];try omega,?_⟩
  simp only [go_sem]
  have cl:=fun (nd':Int) (en':D) (he:ptB en'=true)=>dZ (G:=G) (E0:=.sl (some 9) (ns.map enD)) (fu:=(fu:Int)) (d:=((d+1:Nat):Int)) (n:=n) (xs:=xs) (nd:=(sn:Int)) (en:=ar se) (v:=au sv) (o:=(0,0)) nd' en' he
  unfold mB at cl
  refine ah mixed E fun X=>?_
  simp only [go_sem]
  refine aA X (d:=22) [100] 0 none _ (by simp only [go_sem]) rfl rfl ?_
  simp only [go_sem]
  refine cC X (by simp only [go_sem]) rfl ?_
  simp only [go_sem]
  refine ⟨⟨by omega,by omega⟩,?_⟩
  first | rw [hg] | rw [Int.toNat_natCast,hg]
  simp only [go_sem]
  refine ⟨by decide +kernel,?_⟩
  refine ah mixed E fun X=>?_
  simp only [go_sem]
  refine cC X (by simp only [go_sem]) rfl ?_
  simp only [go_sem]
  refine bH X cw rfl rfl (by simp) ?_
  simp only [go_sem]
  refine ⟨by decide +kernel,?_⟩
  refine bl E (by simp only [go_sem]) rfl ?_
  simp only [go_sem]
  refine aI E (fun hq=>?_) (fun hq=>?_)<;>simp only [go_sem]
  ·have hq:q1=[]:=by simpa using hq
   rw [if_pos hq] at hR
   refine ab E _ _ _ (cl nf.a (ar en1) (dh en1)) rfl rfl ⟨by simp only [go_sem],by first | (rw [aa];decide) | (simp only [go_sem]<;>(try rw [aa])<;>decide)⟩ (by simp only [go_sem]) (by simp only [go_sem]) (by simp only [go_sem]) ?_
   rintro _ _ ⟨rfl,rfl⟩
   refine ⟨by simp only [go_sem];try omega,?_⟩
   simp only [go_sem]
   rw [a8 (by omega)] at hR
   subst hR
   dsimp only [au]
   rw [show ((nf.a.toNat:Nat):Int)=nf.a by omega]
   refine ⟨_,_,[100,101],id,⟨rfl,rfl⟩,?_⟩
   simp only [go_sem]
  ·have hq:¬ q1=[]:=by simpa using hq
   rw [if_neg hq] at hR
   have cf:=dt (G:=G) (E0:=.sl (some 9) (ns.map enD)) (n:=n) (xs:=xs) (nd:=(sn:Int)) (en:=ar se) (v:=au sv) (o:=(0,0)) (fu:=fu) (d:=d+1)
   have cy:=b9 (G:=G) (E0:=.sl (some 9) (ns.map enD)) (n:=n) (xs:=xs) (nd:=(sn:Int)) (en:=ar se) (v:=au sv) (o:=(0,0)) (fu:=fu) (d:=d+1)
   have c3:=aX (G:=G) (E0:=.sl (some 9) (ns.map enD)) (fu:=(fu:Int)) (d:=((d+1:Nat):Int)) (n:=n) (xs:=xs) (nd:=(sn:Int)) (en:=ar se) (v:=au sv) (o:=(0,0)) 3
   unfold mB at cf cy c3
   by_cases hdf:d+1=fu
   ·refine ab E _ _ _ (cf hdf) rfl rfl ⟨by simp only [go_sem],by first | (rw [aa];decide) | (simp only [go_sem]<;>(try rw [aa])<;>decide)⟩ (by simp only [go_sem]) (by simp only [go_sem]) (by simp only [go_sem]) ?_
    rintro _ _ ⟨rfl,rfl⟩
    refine ⟨by simp only [go_sem];try omega,?_⟩
    simp only [go_sem]
    refine ab E _ _ _ c3 rfl rfl ⟨by simp only [go_sem],by first | (rw [aa];decide) | (simp only [go_sem]<;>(try rw [aa])<;>decide)⟩ (by simp only [go_sem]) (by simp only [go_sem]) (by simp only [go_sem]) ?_
    rintro _ _ ⟨rfl,rfl⟩
    refine ⟨by simp only [go_sem];try omega,?_⟩
    simp only [go_sem]
    first | rw [bn (by omega)] at hR | rw [aW (by omega)] at hR
    subst hR hdf
    refine ⟨_,_,[100,101],id,⟨rfl,rfl⟩,?_⟩
    simp only [go_sem]
   refine ab E _ _ _ (cy (by omega) hf) rfl rfl ⟨by simp only [go_sem],by first | (rw [aa];decide) | (simp only [go_sem]<;>(try rw [aa])<;>decide)⟩ (by simp only [go_sem]) (by simp only [go_sem]) (by simp only [go_sem]) ?_
   rintro _ _ ⟨rfl,rfl⟩
   refine ⟨by simp only [go_sem];try omega,?_⟩
   simp only [go_sem]
   have cl:=fun (nd':Int) (en':D) (he:ptB en'=true)=>dZ (G:=G) (E0:=.sl (some 9) (ns.map enD)) (fu:=(fu:Int)) (d:=((d+1+1:Nat):Int)) (n:=n) (xs:=xs) (nd:=(sn:Int)) (en:=ar se) (v:=au sv) (o:=(0,0)) nd' en' he
   unfold mB at cl
   refine ah mixed E fun X=>?_
   simp only [go_sem]
   refine cC X (by simp only [go_sem]) rfl ?_
   simp only [go_sem]
   refine bH X cv rfl rfl (by simp) ?_
   simp only [go_sem]
   refine aR X _ _ _ _ _ (cl nf.a (ar en2) (dh en2)) rfl rfl ⟨by simp only [go_sem],by first | (rw [aa];decide) | (simp only [go_sem]<;>(try rw [aa])<;>decide)⟩ (by simp only [go_sem]) (by simp only [go_sem]) (by simp only [go_sem]) (by simp only [go_sem];try omega) ?_
   simp only [go_sem]
   refine ⟨by decide +kernel,?_⟩
   rw [a8 (by omega)] at hR
   subst hR
   dsimp only [au]
   rw [show ((nf.a.toNat:Nat):Int)=nf.a by omega]
   refine ⟨_,_,[100,101],id,⟨rfl,rfl⟩,?_⟩
   simp only [go_sem]
end Go.Proofs.YtejpnabbmgpmaaaGreat

namespace Go.Proofs.YtejpnabbmgpmaaaGreat
open Go.Ab
theorem mO (v:MV):mvD v=.ptr (.agg [i64 v.k,i64 v.n,.str v.s,aN (some 2) (v.l.ps.map pD),i64 (v.f:Int),ar v.env,.str v.self]):=by
 cases v
 exact cX ..
set_option maxHeartbeats 1000000 in
theorem C6 {G} {ns:List EN} {s:MS} (n0:EN) (a b:MV) (ha:a.k=3→a.s.length≤200) (hb:b.k=3→b.s.length≤200):Turn G ns 254 [enD n0,mvD a,mvD b] s (nE n0 a b s):=by
 intro fu d n xs hd hf
 obtain ⟨R,hR⟩:∃ R,R=b8 fu d s (nE n0 a b s):=⟨_,rfl⟩
 rw [← hR]
 obtain ⟨sn,se,sv,st⟩:=s
 unfold mH mB
 dsimp only [List.map_cons,List.map_nil] at hR ⊢
 have cf:=dt (G:=G) (E0:=.sl (some 9) (ns.map enD)) (n:=n) (xs:=xs) (nd:=(sn:Int)) (en:=ar se) (v:=au sv) (o:=(0,0)) (fu:=fu) (d:=d)
 have cy:=b9 (G:=G) (E0:=.sl (some 9) (ns.map enD)) (n:=n) (xs:=xs) (nd:=(sn:Int)) (en:=ar se) (v:=au sv) (o:=(0,0)) (fu:=fu) (d:=d)
 have c3:=aX (G:=G) (E0:=.sl (some 9) (ns.map enD)) (fu:=(fu:Int)) (d:=(d:Int)) (n:=n) (xs:=xs) (nd:=(sn:Int)) (en:=ar se) (v:=au sv) (o:=(0,0)) 3
 have c4:=aX (G:=G) (E0:=.sl (some 9) (ns.map enD)) (fu:=(fu:Int)) (d:=(d:Int)) (n:=n) (xs:=xs) (nd:=(sn:Int)) (en:=ar se) (v:=au sv) (o:=(0,0)) 4
 unfold mB at cf cy c3 c4
 have cp:=Cc (G:=G) n0.n a.n b.n
 unfold sH at cp
 unfold nE at hR
 rw [bW,mO a,mO b]
 refine ai Tryz.func254 rfl (by decide +kernel) (by simp [Tryz.ntmps254]) (veil fun E=>?_)
 simp only [go_sem]
 refine aj E (fun h7=>?_) (fun h7=>?_)<;>simp only [go_sem]
 ·rw [if_pos h7] at hR
  refine bl E (by simp only [go_sem]) rfl ?_
  simp only [go_sem]
  refine aD E (fun h1=>?_) (fun h1=>?_)<;>simp only [go_sem]
  ·rw [if_neg (fun e=>h1 e.1)] at hR
   refine ab E _ _ _ c4 rfl rfl ⟨by simp only [go_sem],by first | (rw [aa];decide) | (simp only [go_sem]<;>(try rw [aa])<;>decide)⟩ (by simp only [go_sem]) (by simp only [go_sem]) (by simp only [go_sem]) ?_
   rintro _ _ ⟨rfl,rfl⟩
   refine ⟨by simp only [go_sem];try omega,?_⟩
   simp only [go_sem]
   rw [br (by omega),Nat.add_zero] at hR
   subst hR
   refine ⟨_,_,[100,101],id,⟨rfl,rfl⟩,?_⟩
   simp only [go_sem]
  have h1:a.k=3:=by simpa using h1
  refine bl E (by simp only [go_sem]) rfl ?_
  simp only [go_sem]
  refine aj E (fun h2=>?_) (fun h2=>?_)<;>simp only [go_sem]
  ·rw [if_neg (fun e=>h2 e.2)] at hR
   refine ab E _ _ _ c4 rfl rfl ⟨by simp only [go_sem],by first | (rw [aa];decide) | (simp only [go_sem]<;>(try rw [aa])<;>decide)⟩ (by simp only [go_sem]) (by simp only [go_sem]) (by simp only [go_sem]) ?_
   rintro _ _ ⟨rfl,rfl⟩
   refine ⟨by simp only [go_sem];try omega,?_⟩
   simp only [go_sem]
   rw [br (by omega),Nat.add_zero] at hR
   subst hR
   refine ⟨_,_,[100,101],id,⟨rfl,rfl⟩,?_⟩
   simp only [go_sem]
  have h2:b.k=3:=by simpa using h2
  have la:=ha h1
  have lb:=hb h2
  rw [if_pos ⟨h1,h2⟩] at hR
  by_cases hdf:d=fu
  ·refine ab E _ _ _ (cf hdf) rfl rfl ⟨by simp only [go_sem],by first | (rw [aa];decide) | (simp only [go_sem]<;>(try rw [aa])<;>decide)⟩ (by simp only [go_sem]) (by simp only [go_sem]) (by simp only [go_sem]) ?_
   rintro _ _ ⟨rfl,rfl⟩
   refine ⟨by simp only [go_sem];try omega,?_⟩
   simp only [go_sem]
   refine ab E _ _ _ c3 rfl rfl ⟨by simp only [go_sem],by first | (rw [aa];decide) | (simp only [go_sem]<;>(try rw [aa])<;>decide)⟩ (by simp only [go_sem]) (by simp only [go_sem]) (by simp only [go_sem]) ?_
   rintro _ _ ⟨rfl,rfl⟩
   refine ⟨by simp only [go_sem];try omega,?_⟩
   simp only [go_sem]
   first | rw [bn (by omega)] at hR | rw [aW (by omega)] at hR
   subst hR hdf
   refine ⟨_,_,[100,101],id,⟨rfl,rfl⟩,?_⟩
   simp only [go_sem]
  refine ab E _ _ _ (cy (by omega) hf) rfl rfl ⟨by simp only [go_sem],by first | (rw [aa];decide) | (simp only [go_sem]<;>(try rw [aa])<;>decide)⟩ (by simp only [go_sem]) (by simp only [go_sem]) (by simp only [go_sem]) ?_
  rintro _ _ ⟨rfl,rfl⟩
  refine ⟨by simp only [go_sem];try omega,?_⟩
  simp only [go_sem]
  have cg:=fun (u:D) (hu:ptB u=true)=>ig (G:=G) (E0:=.sl (some 9) (ns.map enD)) (fu:=(fu:Int)) (d:=((d+1:Nat):Int)) (n:=n) (xs:=xs) (nd:=(sn:Int)) (en:=ar se) (v:=au sv) (o:=(0,0)) u hu
  unfold mB at cg
  rw [decide_eq_true h7]
  simp only [go_sem]
  refine ah mixed E fun X=>?_
  simp only [go_sem]
  refine cC X (by simp only [go_sem]) rfl ?_
  simp only [go_sem]
  refine cC X (by simp only [go_sem]) rfl ?_
  simp only [go_sem]
  refine ⟨by omega,?_⟩
  refine ⟨by decide +kernel,?_⟩
  obtain ⟨z,hz⟩:∃ z:Int,z=if 200<((a.s++b.s).length:Int) then 200 else ((a.s++b.s).length:Int):=⟨_,rfl⟩
  rw [← hz]
  have hz0:0≤z∧z≤((a.s++b.s).length:Int):=by rw [hz];split<;>omega
  have hzt:(a.s++b.s).take z.toNat=(a.s++b.s).take 200:=by
   rw [hz]
   split
   ·rfl
   ·rw [List.take_of_length_le (by omega),List.take_of_length_le (by omega)]
  refine ⟨hz0,?_⟩
  rw [Nat.sub_zero,hzt]
  refine fm E [56] (.agg [i64 3,i64 0,.str ((a.s++b.s).take 200),.nils,i64 0,.nilp,.str []]) rfl rfl ?_
  simp only [go_sem]
  refine ab E _ _ _ (cg (.ptr (.agg [i64 3,i64 0,.str ((a.s++b.s).take 200),.nils,i64 0,.nilp,.str []])) rfl) rfl rfl ⟨by simp only [go_sem],by first | (rw [aa];decide) | (simp only [go_sem]<;>(try rw [aa])<;>decide)⟩ (by simp only [go_sem]) (by simp only [go_sem]) (by simp only [go_sem]) ?_
  rintro _ _ ⟨rfl,rfl⟩
  refine ⟨by simp only [go_sem];try omega,?_⟩
  simp only [go_sem]
  rw [a8 (by omega)] at hR
  subst hR
  dsimp only [au]
  simp only [lu,j8,cX,ML.ps,List.map_nil,aN,ar]
  refine ⟨_,_,[100,101],id,⟨rfl,rfl⟩,?_⟩
  simp only [go_sem]
 ·rw [if_neg h7] at hR
  have c2:=aX (G:=G) (E0:=.sl (some 9) (ns.map enD)) (fu:=(fu:Int)) (d:=((d+1:Nat):Int)) (n:=n) (xs:=xs) (nd:=(sn:Int)) (en:=ar se) (v:=au sv) (o:=(0,0)) 2
  unfold mB at c2
  refine bl E (by simp only [go_sem]) rfl ?_
  simp only [go_sem]
  refine aD E (fun h1=>?_) (fun h1=>?_)<;>simp only [go_sem]
  ·rw [if_neg (fun e=>h1 e.1)] at hR
   refine ab E _ _ _ c4 rfl rfl ⟨by simp only [go_sem],by first | (rw [aa];decide) | (simp only [go_sem]<;>(try rw [aa])<;>decide)⟩ (by simp only [go_sem]) (by simp only [go_sem]) (by simp only [go_sem]) ?_
   rintro _ _ ⟨rfl,rfl⟩
   refine ⟨by simp only [go_sem];try omega,?_⟩
   simp only [go_sem]
   rw [br (by omega),Nat.add_zero] at hR
   subst hR
   refine ⟨_,_,[100,101],id,⟨rfl,rfl⟩,?_⟩
   simp only [go_sem]
  have h1:a.k=1:=by simpa using h1
  refine bl E (by simp only [go_sem]) rfl ?_
  simp only [go_sem]
  refine aj E (fun h2=>?_) (fun h2=>?_)<;>simp only [go_sem]
  ·rw [if_neg (fun e=>h2 e.2)] at hR
   refine ab E _ _ _ c4 rfl rfl ⟨by simp only [go_sem],by first | (rw [aa];decide) | (simp only [go_sem]<;>(try rw [aa])<;>decide)⟩ (by simp only [go_sem]) (by simp only [go_sem]) (by simp only [go_sem]) ?_
   rintro _ _ ⟨rfl,rfl⟩
   refine ⟨by simp only [go_sem];try omega,?_⟩
   simp only [go_sem]
   rw [br (by omega),Nat.add_zero] at hR
   subst hR
   refine ⟨_,_,[100,101],id,⟨rfl,rfl⟩,?_⟩
   simp only [go_sem]
  have h2:b.k=1:=by simpa using h2
  rw [if_pos ⟨h1,h2⟩] at hR
  by_cases hdf:d=fu
  ·split at hR
   ·refine ab E _ _ _ (cf hdf) rfl rfl ⟨by simp only [go_sem],by first | (rw [aa];decide) | (simp only [go_sem]<;>(try rw [aa])<;>decide)⟩ (by simp only [go_sem]) (by simp only [go_sem]) (by simp only [go_sem]) ?_
    rintro _ _ ⟨rfl,rfl⟩
    refine ⟨by simp only [go_sem];try omega,?_⟩
    simp only [go_sem]
    refine ab E _ _ _ c3 rfl rfl ⟨by simp only [go_sem],by first | (rw [aa];decide) | (simp only [go_sem]<;>(try rw [aa])<;>decide)⟩ (by simp only [go_sem]) (by simp only [go_sem]) (by simp only [go_sem]) ?_
    rintro _ _ ⟨rfl,rfl⟩
    refine ⟨by simp only [go_sem];try omega,?_⟩
    simp only [go_sem]
    first | rw [bn (by omega)] at hR | rw [aW (by omega)] at hR
    subst hR hdf
    refine ⟨_,_,[100,101],id,⟨rfl,rfl⟩,?_⟩
    simp only [go_sem]
   ·refine ab E _ _ _ (cf hdf) rfl rfl ⟨by simp only [go_sem],by first | (rw [aa];decide) | (simp only [go_sem]<;>(try rw [aa])<;>decide)⟩ (by simp only [go_sem]) (by simp only [go_sem]) (by simp only [go_sem]) ?_
    rintro _ _ ⟨rfl,rfl⟩
    refine ⟨by simp only [go_sem];try omega,?_⟩
    simp only [go_sem]
    refine ab E _ _ _ c3 rfl rfl ⟨by simp only [go_sem],by first | (rw [aa];decide) | (simp only [go_sem]<;>(try rw [aa])<;>decide)⟩ (by simp only [go_sem]) (by simp only [go_sem]) (by simp only [go_sem]) ?_
    rintro _ _ ⟨rfl,rfl⟩
    refine ⟨by simp only [go_sem];try omega,?_⟩
    simp only [go_sem]
    first | rw [bn (by omega)] at hR | rw [aW (by omega)] at hR
    subst hR hdf
    refine ⟨_,_,[100,101],id,⟨rfl,rfl⟩,?_⟩
    simp only [go_sem]
  refine ab E _ _ _ (cy (by omega) hf) rfl rfl ⟨by simp only [go_sem],by first | (rw [aa];decide) | (simp only [go_sem]<;>(try rw [aa])<;>decide)⟩ (by simp only [go_sem]) (by simp only [go_sem]) (by simp only [go_sem]) ?_
  rintro _ _ ⟨rfl,rfl⟩
  refine ⟨by simp only [go_sem];try omega,?_⟩
  simp only [go_sem]
  have cg:=fun (u:D) (hu:ptB u=true)=>ig (G:=G) (E0:=.sl (some 9) (ns.map enD)) (fu:=(fu:Int)) (d:=((d+1:Nat):Int)) (n:=n) (xs:=xs) (nd:=(sn:Int)) (en:=ar se) (v:=au sv) (o:=(0,0)) u hu
  unfold mB at cg
  rw [decide_eq_false h7]
  simp only [go_sem]
  refine ah mixed E fun X=>?_
  simp only [go_sem]
  refine cC X (by simp only [go_sem]) rfl ?_
  simp only [go_sem]
  refine cC X (by simp only [go_sem]) rfl ?_
  simp only [go_sem]
  refine bH X cp rfl rfl (by simp) ?_
  simp only [go_sem]
  refine ⟨by decide +kernel,?_⟩
  refine aj E (fun he=>?_) (fun he=>?_)<;>simp only [go_sem]
  ·rw [if_pos he] at hR
   refine ab E _ _ _ c2 rfl rfl ⟨by simp only [go_sem],by first | (rw [aa];decide) | (simp only [go_sem]<;>(try rw [aa])<;>decide)⟩ (by simp only [go_sem]) (by simp only [go_sem]) (by simp only [go_sem]) ?_
   rintro _ _ ⟨rfl,rfl⟩
   refine ⟨by simp only [go_sem];try omega,?_⟩
   simp only [go_sem]
   rw [br (by omega)] at hR
   subst hR
   refine ⟨_,_,[100,101],id,⟨rfl,rfl⟩,?_⟩
   simp only [go_sem]
  have he:kG n0.n b.n=0:=by simpa using he
  rw [if_neg (by simp [he])] at hR
  have h56:5≤n0.n→n0.n=5∨n0.n=6:=fun h5=>by
   unfold kG at he
   (repeat' split at he)<;>first | omega | exact absurd he (by decide)
  generalize jP n0.n a.n b.n=z at *
  by_cases h5:5≤n0.n
  ·rw [if_pos h5] at hR
   refine aD E (fun g5=>?_) (fun g5=>?_)<;>simp only [go_sem]
   ·refine fm E [89] (.agg [i64 2,i64 z,.str [],.nils,i64 0,.nilp,.str []]) rfl rfl ?_
    simp only [go_sem]
    refine ab E _ _ _ (cg (.ptr (.agg [i64 2,i64 z,.str [],.nils,i64 0,.nilp,.str []])) rfl) rfl rfl ⟨by simp only [go_sem],by first | (rw [aa];decide) | (simp only [go_sem]<;>(try rw [aa])<;>decide)⟩ (by simp only [go_sem]) (by simp only [go_sem]) (by simp only [go_sem]) ?_
    rintro _ _ ⟨rfl,rfl⟩
    refine ⟨by simp only [go_sem];try omega,?_⟩
    simp only [go_sem]
    rw [a8 (by omega)] at hR
    subst hR
    dsimp only [au]
    simp only [lu,j8,cX,ML.ps,List.map_nil,aN,ar]
    refine ⟨_,_,[100,101],id,⟨rfl,rfl⟩,?_⟩
    simp only [go_sem]
   ·have g6:=(h56 h5).resolve_left g5
    rw [decide_eq_true g6]
    simp only [go_sem]
    refine fm E [89] (.agg [i64 2,i64 z,.str [],.nils,i64 0,.nilp,.str []]) rfl rfl ?_
    simp only [go_sem]
    refine ab E _ _ _ (cg (.ptr (.agg [i64 2,i64 z,.str [],.nils,i64 0,.nilp,.str []])) rfl) rfl rfl ⟨by simp only [go_sem],by first | (rw [aa];decide) | (simp only [go_sem]<;>(try rw [aa])<;>decide)⟩ (by simp only [go_sem]) (by simp only [go_sem]) (by simp only [go_sem]) ?_
    rintro _ _ ⟨rfl,rfl⟩
    refine ⟨by simp only [go_sem];try omega,?_⟩
    simp only [go_sem]
    rw [a8 (by omega)] at hR
    subst hR
    dsimp only [au]
    simp only [lu,j8,cX,ML.ps,List.map_nil,aN,ar]
    refine ⟨_,_,[100,101],id,⟨rfl,rfl⟩,?_⟩
    simp only [go_sem]
  ·rw [if_neg h5] at hR
   rw [decide_eq_false (show ¬ n0.n=5 by omega)]
   simp only [go_sem]
   rw [decide_eq_false (show ¬ n0.n=6 by omega)]
   simp only [go_sem]
   refine fm E [94] (.agg [i64 1,i64 z,.str [],.nils,i64 0,.nilp,.str []]) rfl rfl ?_
   simp only [go_sem]
   refine ab E _ _ _ (cg (.ptr (.agg [i64 1,i64 z,.str [],.nils,i64 0,.nilp,.str []])) rfl) rfl rfl ⟨by simp only [go_sem],by first | (rw [aa];decide) | (simp only [go_sem]<;>(try rw [aa])<;>decide)⟩ (by simp only [go_sem]) (by simp only [go_sem]) (by simp only [go_sem]) ?_
   rintro _ _ ⟨rfl,rfl⟩
   refine ⟨by simp only [go_sem];try omega,?_⟩
   simp only [go_sem]
   rw [a8 (by omega)] at hR
   subst hR
   dsimp only [au]
   simp only [lu,j8,cX,ML.ps,List.map_nil,aN,ar]
   refine ⟨_,_,[100,101],id,⟨rfl,rfl⟩,?_⟩
   simp only [go_sem]
end Go.Proofs.YtejpnabbmgpmaaaGreat

namespace Go.Proofs.YtejpnabbmgpmaaaGreat
open Go.Ab
theorem iJ {w:W} {xs:List D} (h:xs≠[]):aN w xs=.sl w xs:=by
 cases xs with
 | nil=>exact absurd rfl h
 | cons x r=>rfl
theorem v9:∀ {l:ML} {x:List UInt8} {v:MV},dD l x=some v→∃ j,l.ps.findIdx (fun q=>q.1 == x)=j∧∃ h:j<l.ps.length,l.ps[j].2=v
 | .nil,x,v,h=>by cases h
 | .cons y u r,x,v,h=>by
   rw [dD] at h
   simp only [ML.ps,List.findIdx_cons]
   by_cases e:y=x
   ·rw [if_pos e] at h
    rw [show (y == x)=true by simpa using e]
    exact ⟨0,rfl,by simp,Option.some.inj h⟩
   ·rw [if_neg e] at h
    rw [show (y == x)=false by simpa using e]
    obtain ⟨j,h1,h2,h3⟩:=v9 h
    exact ⟨j+1,by rw [h1];rfl,by simpa using h2,h3⟩
theorem nB:∀ {l:ML} {x:List UInt8},dD l x=none→¬ l.ps.findIdx (fun q=>q.1 == x)<l.ps.length
 | .nil,x,_=>by simp [ML.ps]
 | .cons y u r,x,h=>by
   rw [dD] at h
   simp only [ML.ps,List.findIdx_cons]
   by_cases e:y=x
   ·rw [if_pos e] at h
    cases h
   ·rw [if_neg e] at h
    rw [show (y == x)=false by simpa using e]
    have:=nB h
    simpa using this
set_option maxHeartbeats 1000000 in
theorem Cs {G} {ns:List EN} {s:MS} (n0:EN) (c:MV) (hl:c.l.len≤1000000):Turn G ns 256 [enD n0,mvD c] s (match dD c.l n0.name with
  | some v=>if c.k=5 then .go 1 { s with v:=some v } else .fin 0 4
  | none=>.fin 0 4):=by
 intro fu d n xs hd hf
 obtain ⟨R,hR⟩:∃ R,R=b8 fu d s ((match dD c.l n0.name with | some v=>if c.k=5 then .go 1 { s with v:=some v } else .fin 0 4 | none=>.fin 0 4)):=⟨_,rfl⟩
 rw [← hR]
 obtain ⟨sn,se,sv,st⟩:=s
 unfold mH mB
 dsimp only [List.map_cons,List.map_nil] at hR ⊢
 have cf:=dt (G:=G) (E0:=.sl (some 9) (ns.map enD)) (n:=n) (xs:=xs) (nd:=(sn:Int)) (en:=ar se) (v:=au sv) (o:=(0,0)) (fu:=fu) (d:=d)
 have cy:=b9 (G:=G) (E0:=.sl (some 9) (ns.map enD)) (n:=n) (xs:=xs) (nd:=(sn:Int)) (en:=ar se) (v:=au sv) (o:=(0,0)) (fu:=fu) (d:=d)
 have c3:=aX (G:=G) (E0:=.sl (some 9) (ns.map enD)) (fu:=(fu:Int)) (d:=(d:Int)) (n:=n) (xs:=xs) (nd:=(sn:Int)) (en:=ar se) (v:=au sv) (o:=(0,0)) 3
 have c4:=aX (G:=G) (E0:=.sl (some 9) (ns.map enD)) (fu:=(fu:Int)) (d:=(d:Int)) (n:=n) (xs:=xs) (nd:=(sn:Int)) (en:=ar se) (v:=au sv) (o:=(0,0)) 4
 unfold mB at cf cy c3 c4
 have hpl:=nj c.l
 have c0:=CC (G:=G) c.l.ps (fun q=>q.1 == n0.name) 284 [.ptr (enD n0)] (by omega) (fun x _=>Ce x n0)
 rw [bW,mO c]
 rw [bW] at c0
 cases hfd:dD c.l n0.name with
 | none =>
   rw [hfd] at hR
   simp only at hR
   unfold Ay at c0
   rw [if_neg (nB hfd)] at c0
   refine ai Tryz.func256 rfl (by decide +kernel) (by simp [Tryz.ntmps256]) (veil fun E=>?_)
   simp only [go_sem]
   refine bl E (by simp only [go_sem]) rfl ?_
   simp only [go_sem]
   refine fm E [4] (.agg [i64 n0.k,i64 n0.a,i64 n0.b,i64 n0.c,i64 n0.n,.str n0.name,.str n0.s,.sl (some 3) (n0.l.map fD),i64 n0.pos]) rfl rfl ?_
   simp only [go_sem]
   refine ag E (c0) rfl rfl (by simp) ?_
   rintro _ rfl
   simp only [go_sem]
   refine bl E (by simp only [go_sem]) rfl ?_
   simp only [go_sem]
   refine aD E (fun h1=>?_) (fun h1=>?_)<;>simp only [go_sem]
   ·refine ab E _ _ _ c4 rfl rfl ⟨by simp only [go_sem],by first | (rw [aa];decide) | (simp only [go_sem]<;>(try rw [aa])<;>decide)⟩ (by simp only [go_sem]) (by simp only [go_sem]) (by simp only [go_sem]) ?_
    rintro _ _ ⟨rfl,rfl⟩
    refine ⟨by simp only [go_sem];try omega,?_⟩
    simp only [go_sem]
    rw [br (by omega),Nat.add_zero] at hR
    subst hR
    refine ⟨_,_,[100,101],id,⟨rfl,rfl⟩,?_⟩
    simp only [go_sem]
   ·refine ab E _ _ _ c4 rfl rfl ⟨by simp only [go_sem],by first | (rw [aa];decide) | (simp only [go_sem]<;>(try rw [aa])<;>decide)⟩ (by simp only [go_sem]) (by simp only [go_sem]) (by simp only [go_sem]) ?_
    rintro _ _ ⟨rfl,rfl⟩
    refine ⟨by simp only [go_sem];try omega,?_⟩
    simp only [go_sem]
    rw [br (by omega),Nat.add_zero] at hR
    subst hR
    refine ⟨_,_,[100,101],id,⟨rfl,rfl⟩,?_⟩
    simp only [go_sem]
 | some v =>
   rw [hfd] at hR
   simp only at hR
   obtain ⟨j,hj,hjl,hjv⟩:=v9 hfd
   have hne:c.l.ps.map pD≠[]:=by
    intro e
    rw [List.map_eq_nil_iff] at e
    rw [e] at hjl
    exact absurd hjl (Nat.not_lt_zero _)
   unfold Ay at c0
   rw [hj,if_pos hjl,iJ hne] at c0
   have hpg:=qq hjl
   rw [hjv] at hpg
   rw [iJ hne]
   refine ai Tryz.func256 rfl (by decide +kernel) (by simp [Tryz.ntmps256]) (veil fun E=>?_)
   simp only [go_sem]
   refine bl E (by simp only [go_sem]) rfl ?_
   simp only [go_sem]
   refine fm E [4] (.agg [i64 n0.k,i64 n0.a,i64 n0.b,i64 n0.c,i64 n0.n,.str n0.name,.str n0.s,.sl (some 3) (n0.l.map fD),i64 n0.pos]) rfl rfl ?_
   simp only [go_sem]
   refine ag E (c0) rfl rfl (by simp) ?_
   rintro _ rfl
   simp only [go_sem]
   refine bl E (by simp only [go_sem]) rfl ?_
   simp only [go_sem]
   refine aD E (fun h1=>?_) (fun h1=>?_)<;>simp only [go_sem]
   ·rw [if_neg h1] at hR
    refine ab E _ _ _ c4 rfl rfl ⟨by simp only [go_sem],by first | (rw [aa];decide) | (simp only [go_sem]<;>(try rw [aa])<;>decide)⟩ (by simp only [go_sem]) (by simp only [go_sem]) (by simp only [go_sem]) ?_
    rintro _ _ ⟨rfl,rfl⟩
    refine ⟨by simp only [go_sem];try omega,?_⟩
    simp only [go_sem]
    rw [br (by omega),Nat.add_zero] at hR
    subst hR
    refine ⟨_,_,[100,101],id,⟨rfl,rfl⟩,?_⟩
    simp only [go_sem]
   have h1:c.k=5:=by simpa using h1
   rw [if_pos h1] at hR
   rw [decide_eq_false (show ¬ (j:Int)<0 by omega)]
   simp only [go_sem]
   by_cases hdf:d=fu
   ·refine ab E _ _ _ (cf hdf) rfl rfl ⟨by simp only [go_sem],by first | (rw [aa];decide) | (simp only [go_sem]<;>(try rw [aa])<;>decide)⟩ (by simp only [go_sem]) (by simp only [go_sem]) (by simp only [go_sem]) ?_
    rintro _ _ ⟨rfl,rfl⟩
    refine ⟨by simp only [go_sem];try omega,?_⟩
    simp only [go_sem]
    refine ab E _ _ _ c3 rfl rfl ⟨by simp only [go_sem],by first | (rw [aa];decide) | (simp only [go_sem]<;>(try rw [aa])<;>decide)⟩ (by simp only [go_sem]) (by simp only [go_sem]) (by simp only [go_sem]) ?_
    rintro _ _ ⟨rfl,rfl⟩
    refine ⟨by simp only [go_sem];try omega,?_⟩
    simp only [go_sem]
    first | rw [bn (by omega)] at hR | rw [aW (by omega)] at hR
    subst hR hdf
    refine ⟨_,_,[100,101],id,⟨rfl,rfl⟩,?_⟩
    simp only [go_sem]
   refine ab E _ _ _ (cy (by omega) hf) rfl rfl ⟨by simp only [go_sem],by first | (rw [aa];decide) | (simp only [go_sem]<;>(try rw [aa])<;>decide)⟩ (by simp only [go_sem]) (by simp only [go_sem]) (by simp only [go_sem]) ?_
   rintro _ _ ⟨rfl,rfl⟩
   refine ⟨by simp only [go_sem];try omega,?_⟩
   simp only [go_sem]
   have cg:=fun (u:D) (hu:ptB u=true)=>ig (G:=G) (E0:=.sl (some 9) (ns.map enD)) (fu:=(fu:Int)) (d:=((d+1:Nat):Int)) (n:=n) (xs:=xs) (nd:=(sn:Int)) (en:=ar se) (v:=au sv) (o:=(0,0)) u hu
   unfold mB at cg
   refine bl E (by simp only [go_sem]) rfl ?_
   simp only [go_sem]
   refine ⟨⟨by omega,by omega⟩,?_⟩
   first | rw [hpg] | rw [Int.toNat_natCast,hpg]
   simp only [go_sem]
   refine ab E _ _ _ (cg (mvD v) (qX v)) rfl rfl ⟨by simp only [go_sem],by first | (rw [aa];decide) | (simp only [go_sem]<;>(try rw [aa])<;>decide)⟩ (by simp only [go_sem]) (by simp only [go_sem]) (by simp only [go_sem]) ?_
   rintro _ _ ⟨rfl,rfl⟩
   refine ⟨by simp only [go_sem];try omega,?_⟩
   simp only [go_sem]
   rw [a8 (by omega)] at hR
   subst hR
   dsimp only [au]
   refine ⟨_,_,[100,101],id,⟨rfl,rfl⟩,?_⟩
   simp only [go_sem]
theorem s6 (x:List UInt8) (v:MV) (r:ML):aN (some 2) ((ML.cons x v r).ps.map pD)=.sl (some 2) (.agg [.str x,mvD v]::r.ps.map pD):=rfl
set_option maxHeartbeats 1000000 in
theorem Cl {G} {ns:List EN} {s:MS} (n0:EN) (i:Int) (env:ML) (c:MV) (h:List MV) (hc:c.k=6→c.l.len=1) (hl:n0.l.length≤1000000) (hto:∀ j,j<n0.l.length→0≤(fdE n0.l j).to) :
  Turn G ns 257 [enD n0,.agg [i64 i,ar env,aN none ((c::h).map mvD)]] s (if c.k=6∧fX n0.l c.s<n0.l.length then (match c.l with
  | .cons _ v _=>.go 1 ⟨(fdE n0.l (fX n0.l c.s)).to.toNat,.cons (fdE n0.l (fX n0.l c.s)).var v env,none,s.st⟩
  | .nil=>.fin 0 4) else .fin 0 4):=by
 intro fu d n xs hd hf
 obtain ⟨R,hR⟩:∃ R,R=b8 fu d s ((if c.k=6∧fX n0.l c.s<n0.l.length then (match c.l with | .cons _ v _=>.go 1 ⟨(fdE n0.l (fX n0.l c.s)).to.toNat,.cons (fdE n0.l (fX n0.l c.s)).var v env,none,s.st⟩ | .nil=>.fin 0 4) else .fin 0 4)):=⟨_,rfl⟩
 rw [← hR]
 obtain ⟨sn,se,sv,st⟩:=s
 unfold mH mB
 dsimp only [List.map_cons,List.map_nil] at hR ⊢
 have cf:=dt (G:=G) (E0:=.sl (some 9) (ns.map enD)) (n:=n) (xs:=xs) (nd:=(sn:Int)) (en:=ar se) (v:=au sv) (o:=(0,0)) (fu:=fu) (d:=d)
 have cy:=b9 (G:=G) (E0:=.sl (some 9) (ns.map enD)) (n:=n) (xs:=xs) (nd:=(sn:Int)) (en:=ar se) (v:=au sv) (o:=(0,0)) (fu:=fu) (d:=d)
 have c3:=aX (G:=G) (E0:=.sl (some 9) (ns.map enD)) (fu:=(fu:Int)) (d:=(d:Int)) (n:=n) (xs:=xs) (nd:=(sn:Int)) (en:=ar se) (v:=au sv) (o:=(0,0)) 3
 have c4:=aX (G:=G) (E0:=.sl (some 9) (ns.map enD)) (fu:=(fu:Int)) (d:=(d:Int)) (n:=n) (xs:=xs) (nd:=(sn:Int)) (en:=ar se) (v:=au sv) (o:=(0,0)) 4
 unfold mB at cf cy c3 c4
 have c0:=Cj (G:=G) n0.l (fun f=>f.nm == c.s) 285 [.ptr (mvD c)] hl (fun f _=>Bw f c)
 rw [bW,show (c::h).map mvD=mvD c::h.map mvD from rfl,or_cons,mO c]
 rw [mO c] at c0
 unfold Bn at c0
 rw [show n0.l.findIdx (fun f=>f.nm == c.s)=fX n0.l c.s from rfl] at c0
 obtain ⟨j,hj⟩:∃ j,j=fX n0.l c.s:=⟨_,rfl⟩
 rw [← hj] at hR c0
 by_cases hk:c.k=6∧j<n0.l.length
 ·obtain ⟨h6,hjl⟩:=hk
  rw [if_pos ⟨h6,hjl⟩] at hR
  rw [if_pos hjl] at c0
  have hfg:=vO hjl
  have ht:=hto j hjl
  cases hcl:c.l with
  | nil=>have:=hc h6;rw [hcl] at this;cases this
  | cons x v r =>
  rw [hcl] at hR c0
  simp only at hR
  have cw:=pH (G:=G) env (fdE n0.l j).var v
  rw [s6] at c0 ⊢
  generalize ML.cons (fdE n0.l j).var v env=en1 at *
  generalize fdE n0.l j=fj at *
  refine ai Tryz.func257 rfl (by decide +kernel) (by simp [Tryz.ntmps257]) (veil fun E=>?_)
  simp only [go_sem]
  refine ⟨by omega,?_⟩
  refine fm E [7] (.ptr (.agg [i64 c.k,i64 c.n,.str c.s,.sl (some 2) (.agg [.str x,mvD v]::r.ps.map pD),i64 (c.f:Int),ar c.env,.str c.self])) rfl rfl ?_
  simp only [go_sem]
  refine ag E (c0) rfl rfl (by simp) ?_
  rintro _ rfl
  simp only [go_sem]
  refine bl E (by simp only [go_sem]) rfl ?_
  simp only [go_sem]
  rw [decide_eq_false (show ¬ ¬ c.k=6 by simp [h6])]
  simp only [go_sem]
  rw [decide_eq_false (show ¬ (j:Int)<0 by omega)]
  simp only [go_sem]
  by_cases hdf:d=fu
  ·refine ab E _ _ _ (cf hdf) rfl rfl ⟨by simp only [go_sem],by first | (rw [aa];decide) | (simp only [go_sem]<;>(try rw [aa])<;>decide)⟩ (by simp only [go_sem]) (by simp only [go_sem]) (by simp only [go_sem]) ?_
   rintro _ _ ⟨rfl,rfl⟩
   refine ⟨by simp only [go_sem];try omega,?_⟩
   simp only [go_sem]
   refine ab E _ _ _ c3 rfl rfl ⟨by simp only [go_sem],by first | (rw [aa];decide) | (simp only [go_sem]<;>(try rw [aa])<;>decide)⟩ (by simp only [go_sem]) (by simp only [go_sem]) (by simp only [go_sem]) ?_
   rintro _ _ ⟨rfl,rfl⟩
   refine ⟨by simp only [go_sem];try omega,?_⟩
   simp only [go_sem]
   first | rw [bn (by omega)] at hR | rw [aW (by omega)] at hR
   subst hR hdf
   refine ⟨_,_,[100,101],id,⟨rfl,rfl⟩,?_⟩
   simp only [go_sem]
  refine ab E _ _ _ (cy (by omega) hf) rfl rfl ⟨by simp only [go_sem],by first | (rw [aa];decide) | (simp only [go_sem]<;>(try rw [aa])<;>decide)⟩ (by simp only [go_sem]) (by simp only [go_sem]) (by simp only [go_sem]) ?_
  rintro _ _ ⟨rfl,rfl⟩
  refine ⟨by simp only [go_sem];try omega,?_⟩
  simp only [go_sem]
  have cl:=fun (nd':Int) (en':D) (he:ptB en'=true)=>dZ (G:=G) (E0:=.sl (some 9) (ns.map enD)) (fu:=(fu:Int)) (d:=((d+1:Nat):Int)) (n:=n) (xs:=xs) (nd:=(sn:Int)) (en:=ar se) (v:=au sv) (o:=(0,0)) nd' en' he
  unfold mB at cl
  refine ah mixed E fun X=>?_
  simp only [go_sem]
  refine ⟨⟨by omega,by omega⟩,?_⟩
  first | rw [hfg] | rw [Int.toNat_natCast,hfg]
  simp only [go_sem]
  refine ⟨⟨by omega,by omega⟩,?_⟩
  first | rw [hfg] | rw [Int.toNat_natCast,hfg]
  simp only [go_sem]
  refine cC X (by simp only [go_sem]) rfl ?_
  simp only [go_sem]
  refine ⟨by omega,?_⟩
  refine bH X cw rfl rfl (by simp) ?_
  simp only [go_sem]
  refine aR X _ _ _ _ _ (cl fj.to (ar en1) (dh en1)) rfl rfl ⟨by simp only [go_sem],by first | (rw [aa];decide) | (simp only [go_sem]<;>(try rw [aa])<;>decide)⟩ (by simp only [go_sem]) (by simp only [go_sem]) (by simp only [go_sem]) (by simp only [go_sem];try omega) ?_
  simp only [go_sem]
  refine ⟨by decide +kernel,?_⟩
  rw [a8 (by omega)] at hR
  subst hR
  dsimp only [au]
  rw [show ((fj.to.toNat:Nat):Int)=fj.to by omega]
  refine ⟨_,_,[100,101],id,⟨rfl,rfl⟩,?_⟩
  simp only [go_sem]
 ·rw [if_neg hk] at hR
  refine ai Tryz.func257 rfl (by decide +kernel) (by simp [Tryz.ntmps257]) (veil fun E=>?_)
  simp only [go_sem]
  refine ⟨by omega,?_⟩
  refine fm E [7] (.ptr (.agg [i64 c.k,i64 c.n,.str c.s,aN (some 2) (c.l.ps.map pD),i64 (c.f:Int),ar c.env,.str c.self])) rfl rfl ?_
  simp only [go_sem]
  refine ag E (c0) rfl rfl (by simp) ?_
  rintro _ rfl
  simp only [go_sem]
  refine bl E (by simp only [go_sem]) rfl ?_
  simp only [go_sem]
  refine aD E (fun h1=>?_) (fun h1=>?_)<;>simp only [go_sem]
  ·refine ab E _ _ _ c4 rfl rfl ⟨by simp only [go_sem],by first | (rw [aa];decide) | (simp only [go_sem]<;>(try rw [aa])<;>decide)⟩ (by simp only [go_sem]) (by simp only [go_sem]) (by simp only [go_sem]) ?_
   rintro _ _ ⟨rfl,rfl⟩
   refine ⟨by simp only [go_sem];try omega,?_⟩
   simp only [go_sem]
   rw [br (by omega),Nat.add_zero] at hR
   subst hR
   refine ⟨_,_,[100,101],id,⟨rfl,rfl⟩,?_⟩
   simp only [go_sem]
  have h1:c.k=6:=by simpa using h1
  rw [if_neg (fun e=>hk ⟨h1,e⟩)]
  simp only [go_sem]
  refine ab E _ _ _ c4 rfl rfl ⟨by simp only [go_sem],by first | (rw [aa];decide) | (simp only [go_sem]<;>(try rw [aa])<;>decide)⟩ (by simp only [go_sem]) (by simp only [go_sem]) (by simp only [go_sem]) ?_
  rintro _ _ ⟨rfl,rfl⟩
  refine ⟨by simp only [go_sem];try omega,?_⟩
  simp only [go_sem]
  rw [br (by omega),Nat.add_zero] at hR
  subst hR
  refine ⟨_,_,[100,101],id,⟨rfl,rfl⟩,?_⟩
  simp only [go_sem]
end Go.Proofs.YtejpnabbmgpmaaaGreat

namespace Go.Proofs.YtejpnabbmgpmaaaGreat
open Go.Ab
theorem mN:∀ (l:List EF) (h:List MV),l.length=h.length→(eT l h).ps=(l.zip h).map fun q=>(q.1.nm,q.2)
 | [],[],_=>rfl
 | f::l,v::r,e=>by
   rw [eT,ML.ps,mN l r (by simpa using e)]
   rfl
 | [],_::_,e=>by simp at e
 | _::_,[],e=>by simp at e
theorem D1 {l:List EF} {h:List MV} (e:l.length=h.length) {i:Nat} (hi:i<l.length):((eT l h).ps.map pD).take (i+1)=((eT l h).ps.map pD).take i++[.agg [.str (fdE l i).nm,mvD (h.getD i iT)]]:=by
 have hl:i<((eT l h).ps.map pD).length:=by rw [List.length_map,mN l h e,List.length_map,List.length_zip];omega
 rw [List.take_succ_eq_append_getElem hl]
 congr 2
 simp only [List.getElem_map]
 have:(eT l h).ps[i]'(by simpa using hl)=((fdE l i).nm,h.getD i iT):=by
  have h2:(eT l h).ps[i]?=some ((fdE l i).nm,h.getD i iT):=by
   rw [mN l h e,List.getElem?_map,List.getElem?_eq_getElem (by rw [List.length_zip];omega)]
   simp [fdE,hi,show i<h.length by omega]
  exact Option.some.inj ((List.getElem?_eq_getElem (by simpa using hl)).symm.trans h2)
 rw [this]
 rfl
theorem m5 (h:List MV) (i:Nat):((h.map mvD).getD i .nilp).scal=true:=by
 rw [List.getD_eq_getElem?_getD,List.getElem?_map]
 cases h[i]? with
 | none=>rfl
 | some v=>exact lK v
theorem At (t:Go.Ab.TI) (h:List MV) (i:Nat):dE t ((h.map mvD).getD i .nilp) 0=if t.k.aF then none else if t.k.agg then none else some ((h.map mvD).getD i .nilp):=lP (m5 h i)
theorem xP (h:List MV) (i:Nat):dO ((h.map mvD).getD i .nilp)=some [.d ((h.map mvD).getD i .nilp)]:=nq (m5 h i)
attribute [go_sem high] At
attribute [go_sem ↓] xP m5
set_option maxHeartbeats 1000000 in
theorem z6 {G} (n0:EN) (h:List MV) (e:n0.l.length=h.length) (hl:n0.l.length≤1000000):HCall Tryz.prog G 255 [.d (enD n0),.d (.sl none (h.map mvD))] [] []
  (fun r hp'=>r=.at [9] 0∧hp'=[([9],.box [.d (i64 5),.d (i64 0),.d (.str []),.vw [98] 0 n0.l.length,.d (i64 0),.d .nilp,.d (.str [])]),([98],.arr (some 2) ((eT n0.l h).ps.map pD))]):=by
 have hlen:((eT n0.l h).ps.map pD).length=n0.l.length:=by rw [List.length_map,mN _ _ e,List.length_map,List.length_zip];omega
 have hat:=fun (i:Nat) (hi:i<n0.l.length)=>D1 e hi
 generalize (eT n0.l h).ps.map pD=L at *
 rw [bW]
 refine ai Tryz.func255 rfl (by decide +kernel) (by simp [Tryz.ntmps255]) (veil fun E=>?_)
 simp only [go_sem]
 refine lG E [9] 3 98 (some 2) [.d (i64 5),.d (i64 0),.d (.str []),.d .nils,.d (i64 0),.d .nilp,.d (.str [])] rfl rfl (by rw [aa];decide) ?_
 simp only [go_sem]
 refine aG E (X:={ i:Nat // i≤n0.l.length }) (fun x=>[(1,.d (.sl none (h.map mvD))),(4,.d .nilp),(5,.at [9] 0),(11,.d (.sl (some 3) (n0.l.map fD))),(12,.d (i64 n0.l.length)),(13,.d (i64 x.1))])
  (fun x=>[([9],.box [.d (i64 5),.d (i64 0),.d (.str []),.vw [98] 0 x.1,.d (i64 0),.d .nilp,.d (.str [])]),([98],.arr (some 2) (L.take x.1))]) [9,98] (fun x=>n0.l.length-x.1) ⟨0,Nat.zero_le _⟩ id ?_ ?_
 ·simp only [go_sem]
  all_goals ((repeat' apply And.intro)<;>first | rfl | trivial)
 rintro ⟨i,hi⟩ E0
 refine aZ E0 fun Q' hQ E'=>?_
 simp only at hi ⊢
 simp only [go_sem]
 refine aj E' (fun g1=>?_) (fun g1=>?_)<;>simp only [go_sem]
 ·have hi':i<n0.l.length:=by omega
  have hfg:=vO hi'
  have hhg:(h.map mvD).getD i .nilp=mvD (h.getD i iT):=by simp [show i<h.length by omega]
  have hat:=hat i hi'
  generalize fdE n0.l i=fj at *
  generalize h.getD i iT=w at *
  refine ⟨⟨by omega,by omega⟩,?_⟩
  rw [hfg]
  simp only [go_sem]
  refine ah mixed E' fun X=>?_
  simp only [go_sem]
  refine aA X (d:=20) [9] 0 none _ (by simp only [go_sem]) rfl rfl ?_
  simp only [go_sem]
  refine ⟨⟨by omega,by omega⟩,?_⟩
  rw [hhg]
  refine ⟨by omega,?_⟩
  refine aA X (d:=32) [9] 0 none _ (by simp only [go_sem]) rfl rfl ?_
  simp only [go_sem]
  refine ⟨by decide +kernel,?_⟩
  rw [List.take_of_length_le (l:=L.take i) (by rw [List.length_take];omega),← hat,ao (n:=(i:Int)+1) ⟨by omega,by omega⟩,hQ]
  simp only [go_sem]
  refine ⟨⟨i+1,by omega⟩,by show n0.l.length-(i+1)<_;omega,tau [([98],[31])],?_⟩
  simp only [go_sem]
  all_goals ((repeat' apply And.intro)<;>first | rfl | trivial)
 ·have h3:i=n0.l.length:=by omega
  subst h3
  rw [hQ]
  simp only [go_sem]
  rw [List.take_of_length_le (by omega)]
  refine ⟨_,_,[9,98],id,⟨rfl,rfl⟩,?_⟩
  simp only [go_sem]
end Go.Proofs.YtejpnabbmgpmaaaGreat

namespace Go.Proofs.YtejpnabbmgpmaaaGreat
open Go.Ab
theorem Dm {G} (n0:EN) (h:List MV) (e:n0.l.length=h.length) (h0:n0.l≠[]) (hl:n0.l.length≤1000000):HP Tryz.prog G 255 [enD n0,.sl none (h.map mvD)] (fun r=>r=.d (mvD (.mk 5 0 [] (eT n0.l h) 0 .nil []))):=by
 have hr:=z6 (G:=G) n0 h e hl
 have hlen:((eT n0.l h).ps.map pD).length=n0.l.length:=by rw [List.length_map,mN _ _ e,List.length_map,List.length_zip];omega
 have hne:(eT n0.l h).ps.map pD≠[]:=fun g=>by
  rw [g] at hlen
  exact h0 (List.length_eq_zero_iff.1 hlen.symm)
 rw [cX,iJ hne]
 generalize (eT n0.l h).ps.map pD=L at *
 refine HCall.FZ (nm:=[9]) (x:=.agg [i64 5,i64 0,.str [],.sl (some 2) L,i64 ((0:Nat):Int),ar .nil,.str []]) ?_ (by rw [ar];rfl)
 refine HCall.fA hr [98] ?_
 rintro r hp' ⟨rfl,rfl⟩
 refine ⟨some 2,L,rfl,?_,?_⟩
 ·simp only [go_sem]
 ·rw [ar]
  simp only [go_sem]
  rw [List.take_of_length_le (by omega)]
theorem q0 {G} {f:FuncId} {args:List AV} {hp:List (Name × Ob)} {E0 fu d n xs nd en} {o:Int × Int} {x:List D} (_hx:x.length=7) (hs:(x.all D.scal)=true) (r0:AV) (_h0:r0=.d (i64 0))
  (h:HCall Tryz.prog G f args hp [100,101] (fun r hp'=>r=.d (i64 0)∧hp'=mB E0 fu d n xs nd en (.at [102] 0) o++[([102],.box (x.map .d))])) :
  HCall Tryz.prog G f args hp [100,101] (fun r hp'=>r=.d (i64 0)∧hp'=mB E0 fu d n xs nd en (.d (.ptr (.agg x))) o):=by
 refine HCall.fB h [102] (.agg x) ?_
 rintro r hp' ⟨rfl,rfl⟩
 unfold mB
 refine ⟨rfl,hs,?_,?_⟩
 ·simp only [go_sem]
 ·simp only [go_sem]
set_option maxHeartbeats 1000000 in
theorem CU {G} {ns:List EN} {s:MS} (n0:EN):Turn G ns 197 [enD n0] s (n6 n0 s):=by
 intro fu d n xs hd hf
 obtain ⟨R,hR⟩:∃ R,R=b8 fu d s (n6 n0 s):=⟨_,rfl⟩
 rw [← hR]
 obtain ⟨sn,se,sv,st⟩:=s
 unfold mH mB
 dsimp only [List.map_cons,List.map_nil] at hR ⊢
 have cf:=dt (G:=G) (E0:=.sl (some 9) (ns.map enD)) (n:=n) (xs:=xs) (nd:=(sn:Int)) (en:=ar se) (v:=au sv) (o:=(0,0)) (fu:=fu) (d:=d)
 have cy:=b9 (G:=G) (E0:=.sl (some 9) (ns.map enD)) (n:=n) (xs:=xs) (nd:=(sn:Int)) (en:=ar se) (v:=au sv) (o:=(0,0)) (fu:=fu) (d:=d)
 have c3:=aX (G:=G) (E0:=.sl (some 9) (ns.map enD)) (fu:=(fu:Int)) (d:=(d:Int)) (n:=n) (xs:=xs) (nd:=(sn:Int)) (en:=ar se) (v:=au sv) (o:=(0,0)) 3
 have c4:=aX (G:=G) (E0:=.sl (some 9) (ns.map enD)) (fu:=(fu:Int)) (d:=(d:Int)) (n:=n) (xs:=xs) (nd:=(sn:Int)) (en:=ar se) (v:=au sv) (o:=(0,0)) 4
 unfold mB at cf cy c3 c4
 unfold n6 at hR
 rw [bW]
 have cg:=fun (u:D) (hu:ptB u=true)=>ig (G:=G) (E0:=.sl (some 9) (ns.map enD)) (fu:=(fu:Int)) (d:=((d+0:Nat):Int)) (n:=n) (xs:=xs) (nd:=(sn:Int)) (en:=ar se) (v:=au sv) (o:=(0,0)) u hu
 unfold mB at cg
 rw [Nat.add_zero] at cg
 by_cases k5:n0.k=5
 ·rw [if_neg (by omega),if_neg (by omega),if_pos k5,a8 (by omega)] at hR
  subst hR
  have cb:=Ap (G:=G) (E0:=.sl (some 9) (ns.map enD)) (fu:=(fu:Int)) (d:=(d:Int)) (n:=n) (xs:=xs) (nd:=(sn:Int)) (en:=ar se) (v:=au sv) (o:=(0,0)) (i64 4) (i64 0) (.str []) .nils (i64 (sn:Int)) (ar se) (.str [])
  have key:=q0 (G:=G) (f:=197) (args:=[.at [100] 0,.d (.agg [i64 n0.k,i64 n0.a,i64 n0.b,i64 n0.c,i64 n0.n,.str n0.name,.str n0.s,.sl (some 3) (n0.l.map fD),i64 n0.pos])]) (hp:=mB (.sl (some 9) (ns.map enD)) (fu:Int) (d:Int) n xs (sn:Int) (ar se) (.d (au sv)) (0,0)) (E0:=.sl (some 9) (ns.map enD)) (fu:=(fu:Int)) (d:=(d:Int)) (n:=n) (xs:=xs) (nd:=(sn:Int)) (en:=ar se) (o:=(0,0)) (x:=[i64 4,i64 0,.str [],.nils,i64 (sn:Int),ar se,.str []]) rfl (by simp only [List.all_cons,List.all_nil,Bool.and_true];rw [fg];rfl) _ rfl ?_
  ·unfold mB at key
   dsimp only [au,xS]
   rw [Nat.add_zero,cX]
   exact key
  unfold mB at *
  refine ai Tryz.func197 rfl (by decide +kernel) (by simp [Tryz.ntmps197]) (veil fun E=>?_)
  simp only [go_sem]
  rw [k5]
  simp only [go_sem]
  refine ah mixed E fun X=>?_
  simp only [go_sem]
  refine aA X (d:=36) [100] 0 none _ (by simp only [go_sem]) rfl rfl ?_
  simp only [go_sem]
  refine aA X (d:=40) [100] 0 none _ (by simp only [go_sem]) rfl rfl ?_
  simp only [go_sem]
  refine DZ X (cs:=[.d (i64 4),.d (i64 0),.d (.str []),.d .nils,.d (i64 (sn:Int)),.d (ar se),.d (.str [])]) rfl ⟨by simp only [go_sem],by rw [aa];decide⟩ ?_
  simp only [go_sem]
  refine qs X (tau [([102],[44])]) _ _ _ _ _ cb rfl (by simp only [go_sem];try rfl) ⟨by simp only [go_sem],by first | (rw [aa];decide) | (simp only [go_sem]<;>(try rw [aa])<;>decide)⟩ (by simp only [go_sem]) (by simp only [go_sem]) (by simp only [go_sem];try decide) (by simp only [go_sem];try omega) ?_
  simp only [go_sem]
  refine ⟨by decide +kernel,?_⟩
  refine ⟨_,_,[100,101,102],tau [([102],[44])],⟨rfl,rfl⟩,?_⟩
  simp only [go_sem]
 have cfd:=Cp (G:=G) se n0.name
 refine ai Tryz.func197 rfl (by decide +kernel) (by simp [Tryz.ntmps197]) (veil fun E=>?_)
 simp only [go_sem]
 refine aj E (fun k1=>?_) (fun k1=>?_)<;>simp only [go_sem]
 ·rw [if_pos (.inl k1)] at hR
  refine fm E [14] (.agg [i64 1,i64 n0.n,.str [],.nils,i64 0,.nilp,.str []]) rfl rfl ?_
  simp only [go_sem]
  refine ab E _ _ _ (cg (.ptr (.agg [i64 1,i64 n0.n,.str [],.nils,i64 0,.nilp,.str []])) rfl) rfl rfl ⟨by simp only [go_sem],by first | (rw [aa];decide) | (simp only [go_sem]<;>(try rw [aa])<;>decide)⟩ (by simp only [go_sem]) (by simp only [go_sem]) (by simp only [go_sem]) ?_
  rintro _ _ ⟨rfl,rfl⟩
  refine ⟨by simp only [go_sem];try omega,?_⟩
  simp only [go_sem]
  rw [a8 (by omega)] at hR
  subst hR
  dsimp only [au]
  simp only [lu,j8,cX,ML.ps,List.map_nil,aN,ar]
  refine ⟨_,_,[100,101],id,⟨rfl,rfl⟩,?_⟩
  simp only [go_sem]
  rw [k1]
 refine aj E (fun k2=>?_) (fun k2=>?_)<;>simp only [go_sem]
 ·rw [if_pos (.inr k2)] at hR
  refine fm E [22] (.agg [i64 2,i64 n0.n,.str [],.nils,i64 0,.nilp,.str []]) rfl rfl ?_
  simp only [go_sem]
  refine ab E _ _ _ (cg (.ptr (.agg [i64 2,i64 n0.n,.str [],.nils,i64 0,.nilp,.str []])) rfl) rfl rfl ⟨by simp only [go_sem],by first | (rw [aa];decide) | (simp only [go_sem]<;>(try rw [aa])<;>decide)⟩ (by simp only [go_sem]) (by simp only [go_sem]) (by simp only [go_sem]) ?_
  rintro _ _ ⟨rfl,rfl⟩
  refine ⟨by simp only [go_sem];try omega,?_⟩
  simp only [go_sem]
  rw [a8 (by omega)] at hR
  subst hR
  dsimp only [au]
  simp only [lu,j8,cX,ML.ps,List.map_nil,aN,ar]
  refine ⟨_,_,[100,101],id,⟨rfl,rfl⟩,?_⟩
  simp only [go_sem]
  rw [k2]
 rw [if_neg (by omega)] at hR
 refine aj E (fun k3=>?_) (fun k3=>?_)<;>simp only [go_sem]
 ·rw [if_pos k3] at hR
  refine fm E [30] (.agg [i64 3,i64 0,.str n0.s,.nils,i64 0,.nilp,.str []]) rfl rfl ?_
  simp only [go_sem]
  refine ab E _ _ _ (cg (.ptr (.agg [i64 3,i64 0,.str n0.s,.nils,i64 0,.nilp,.str []])) rfl) rfl rfl ⟨by simp only [go_sem],by first | (rw [aa];decide) | (simp only [go_sem]<;>(try rw [aa])<;>decide)⟩ (by simp only [go_sem]) (by simp only [go_sem]) (by simp only [go_sem]) ?_
  rintro _ _ ⟨rfl,rfl⟩
  refine ⟨by simp only [go_sem];try omega,?_⟩
  simp only [go_sem]
  rw [a8 (by omega)] at hR
  subst hR
  dsimp only [au]
  simp only [lu,j8,cX,ML.ps,List.map_nil,aN,ar]
  refine ⟨_,_,[100,101],id,⟨rfl,rfl⟩,?_⟩
  simp only [go_sem]
 rw [if_neg k3,if_neg k5] at hR
 rw [decide_eq_false k5]
 simp only [go_sem]
 cases hfd:dD se n0.name with
 | none =>
   rw [hfd] at hR cfd
   simp only at hR cfd
   refine ah mixed E fun X=>?_
   simp only [go_sem]
   refine aA X (d:=47) [100] 0 none _ (by simp only [go_sem]) rfl rfl ?_
   simp only [go_sem]
   refine bH X cfd rfl rfl (by simp) ?_
   simp only [go_sem]
   refine ⟨by decide +kernel,?_⟩
   refine qp E (e:=232) true (by rw [bO]) (by simp only [go_sem]) rfl ?_
   simp only [go_sem]
   refine ab E _ _ _ c4 rfl rfl ⟨by simp only [go_sem],by first | (rw [aa];decide) | (simp only [go_sem]<;>(try rw [aa])<;>decide)⟩ (by simp only [go_sem]) (by simp only [go_sem]) (by simp only [go_sem]) ?_
   rintro _ _ ⟨rfl,rfl⟩
   refine ⟨by simp only [go_sem];try omega,?_⟩
   simp only [go_sem]
   rw [br (by omega),Nat.add_zero] at hR
   subst hR
   refine ⟨_,_,[100,101],id,⟨rfl,rfl⟩,?_⟩
   simp only [go_sem]
 | some v =>
   rw [hfd] at hR cfd
   simp only at hR cfd
   obtain ⟨pv,hpv⟩:∃ p,mvD v=.ptr p:=⟨_,mO v⟩
   rw [hpv] at cfd
   refine ah mixed E fun X=>?_
   simp only [go_sem]
   refine aA X (d:=47) [100] 0 none _ (by simp only [go_sem]) rfl rfl ?_
   simp only [go_sem]
   refine bH X cfd rfl rfl (by simp) ?_
   simp only [go_sem]
   refine ⟨by decide +kernel,?_⟩
   refine qp E (e:=232) false (by rw [bO]) (by simp only [go_sem]) rfl ?_
   simp only [go_sem]
   refine ab E _ _ _ (cg (.ptr pv) rfl) rfl rfl ⟨by simp only [go_sem],by first | (rw [aa];decide) | (simp only [go_sem]<;>(try rw [aa])<;>decide)⟩ (by simp only [go_sem]) (by simp only [go_sem]) (by simp only [go_sem]) ?_
   rintro _ _ ⟨rfl,rfl⟩
   refine ⟨by simp only [go_sem];try omega,?_⟩
   simp only [go_sem]
   rw [a8 (by omega)] at hR
   subst hR
   dsimp only [au]
   rw [hpv]
   refine ⟨_,_,[100,101],id,⟨rfl,rfl⟩,?_⟩
   simp only [go_sem]
end Go.Proofs.YtejpnabbmgpmaaaGreat

namespace Go.Proofs.YtejpnabbmgpmaaaGreat
open Go.Ab
set_option maxHeartbeats 1000000 in
theorem DB {G} {ns:List EN} {s:MS} (n0:EN) (env:ML) {a:Nat} (ha:n0.a=(a:Int)) (hal:a<ns.length) (hb:0≤n0.b) (_hN:ns.length≤1000000):Turn G ns 195 [enD n0,ar env] s (.go 1 ⟨n0.b.toNat,.cons n0.name (pW ns n0 env) env,none,s.st⟩):=by
 intro fu d n xs hd hf
 obtain ⟨R,hR⟩:∃ R,R=b8 fu d s (MR.go 1 ⟨n0.b.toNat,.cons n0.name (pW ns n0 env) env,none,s.st⟩):=⟨_,rfl⟩
 rw [← hR]
 obtain ⟨sn,se,sv,st⟩:=s
 unfold mH mB
 dsimp only [List.map_cons,List.map_nil] at hR ⊢
 have cf:=dt (G:=G) (E0:=.sl (some 9) (ns.map enD)) (n:=n) (xs:=xs) (nd:=(sn:Int)) (en:=ar se) (v:=au sv) (o:=(0,0)) (fu:=fu) (d:=d)
 have cy:=b9 (G:=G) (E0:=.sl (some 9) (ns.map enD)) (n:=n) (xs:=xs) (nd:=(sn:Int)) (en:=ar se) (v:=au sv) (o:=(0,0)) (fu:=fu) (d:=d)
 have c3:=aX (G:=G) (E0:=.sl (some 9) (ns.map enD)) (fu:=(fu:Int)) (d:=(d:Int)) (n:=n) (xs:=xs) (nd:=(sn:Int)) (en:=ar se) (v:=au sv) (o:=(0,0)) 3
 have c4:=aX (G:=G) (E0:=.sl (some 9) (ns.map enD)) (fu:=(fu:Int)) (d:=(d:Int)) (n:=n) (xs:=xs) (nd:=(sn:Int)) (en:=ar se) (v:=au sv) (o:=(0,0)) 4
 unfold mB at cf cy c3 c4
 have cw:=tv (G:=G) n0.name (ar env) (mvD (pW ns n0 env)) (dh _) (qX _)
 rw [show D.ptr (.agg [.str n0.name,mvD (pW ns n0 env),ar env])=ar (.cons n0.name (pW ns n0 env) env) by rw [ar]] at cw
 have hg:=bF hal
 unfold pW xS at cw hR
 rw [show n0.a.toNat=a by omega] at cw hR
 rw [cX] at cw
 rw [bW,ha]
 generalize ndE ns a=nf at *
 generalize he:(ML.cons n0.name (.mk 4 0 [] .nil a env (if nf.name=n0.name then [] else n0.name)) env)=en1 at *
 refine ai Tryz.func195 rfl (by decide +kernel) (by simp [Tryz.ntmps195]) (veil fun E=>?_)
 simp only [go_sem]
 by_cases hdf:d=fu
 ·refine ab E _ _ _ (cf hdf) rfl rfl ⟨by simp only [go_sem],by first | (rw [aa];decide) | (simp only [go_sem]<;>(try rw [aa])<;>decide)⟩ (by simp only [go_sem]) (by simp only [go_sem]) (by simp only [go_sem]) ?_
  rintro _ _ ⟨rfl,rfl⟩
  refine ⟨by simp only [go_sem];try omega,?_⟩
  simp only [go_sem]
  refine ab E _ _ _ c3 rfl rfl ⟨by simp only [go_sem],by first | (rw [aa];decide) | (simp only [go_sem]<;>(try rw [aa])<;>decide)⟩ (by simp only [go_sem]) (by simp only [go_sem]) (by simp only [go_sem]) ?_
  rintro _ _ ⟨rfl,rfl⟩
  refine ⟨by simp only [go_sem];try omega,?_⟩
  simp only [go_sem]
  first | rw [bn (by omega)] at hR | rw [aW (by omega)] at hR
  subst hR hdf
  refine ⟨_,_,[100,101],id,⟨rfl,rfl⟩,?_⟩
  simp only [go_sem]
 refine ab E _ _ _ (cy (by omega) hf) rfl rfl ⟨by simp only [go_sem],by first | (rw [aa];decide) | (simp only [go_sem]<;>(try rw [aa])<;>decide)⟩ (by simp only [go_sem]) (by simp only [go_sem]) (by simp only [go_sem]) ?_
 rintro _ _ ⟨rfl,rfl⟩
 refine ⟨by simp only [go_sem];try omega,?_⟩
 simp only [go_sem]
 have cl:=fun (nd':Int) (en':D) (he:ptB en'=true)=>dZ (G:=G) (E0:=.sl (some 9) (ns.map enD)) (fu:=(fu:Int)) (d:=((d+1:Nat):Int)) (n:=n) (xs:=xs) (nd:=(sn:Int)) (en:=ar se) (v:=au sv) (o:=(0,0)) nd' en' he
 unfold mB at cl
 refine ah mixed E fun X=>?_
 simp only [go_sem]
 refine aA X (d:=19) [100] 0 none _ (by simp only [go_sem]) rfl rfl ?_
 simp only [go_sem]
 refine ⟨⟨by omega,by omega⟩,?_⟩
 first | rw [hg] | rw [Int.toNat_natCast,hg]
 simp only [go_sem]
 refine ⟨by decide +kernel,?_⟩
 refine aI E (fun hq=>?_) (fun hq=>?_)<;>simp only [go_sem]
 ·have hq:¬ nf.name=n0.name:=by simpa using hq
  rw [if_neg hq] at cw
  refine DO E [17] (.agg [i64 4,i64 0,.str [],.nils,i64 (a:Int),ar env,.str n0.name]) rfl (by simp only [D.cells,List.all_cons,List.all_nil,Bool.and_true];rw [fg];rfl) ?_
  simp only [go_sem]
  refine ah mixed E fun X=>?_
  simp only [go_sem]
  refine bH X cw rfl rfl (by simp) ?_
  simp only [go_sem]
  refine aR X _ _ _ _ _ (cl n0.b (ar en1) (dh en1)) rfl rfl ⟨by simp only [go_sem],by first | (rw [aa];decide) | (simp only [go_sem]<;>(try rw [aa])<;>decide)⟩ (by simp only [go_sem]) (by simp only [go_sem]) (by simp only [go_sem]) (by simp only [go_sem];try omega) ?_
  simp only [go_sem]
  refine ⟨by decide +kernel,?_⟩
  rw [a8 (by omega)] at hR
  subst hR
  dsimp only [au]
  rw [show ((n0.b.toNat:Nat):Int)=n0.b by omega]
  refine ⟨_,_,[100,101],id,⟨rfl,rfl⟩,?_⟩
  simp only [go_sem]
 ·have hq:nf.name=n0.name:=by simpa using hq
  rw [if_pos hq] at cw
  refine DO E [17] (.agg [i64 4,i64 0,.str [],.nils,i64 (a:Int),ar env,.str []]) rfl (by simp only [D.cells,List.all_cons,List.all_nil,Bool.and_true];rw [fg];rfl) ?_
  simp only [go_sem]
  refine ah mixed E fun X=>?_
  simp only [go_sem]
  refine bH X cw rfl rfl (by simp) ?_
  simp only [go_sem]
  refine aR X _ _ _ _ _ (cl n0.b (ar en1) (dh en1)) rfl rfl ⟨by simp only [go_sem],by first | (rw [aa];decide) | (simp only [go_sem]<;>(try rw [aa])<;>decide)⟩ (by simp only [go_sem]) (by simp only [go_sem]) (by simp only [go_sem]) (by simp only [go_sem];try omega) ?_
  simp only [go_sem]
  refine ⟨by decide +kernel,?_⟩
  rw [a8 (by omega)] at hR
  subst hR
  dsimp only [au]
  rw [show ((n0.b.toNat:Nat):Int)=n0.b by omega]
  refine ⟨_,_,[100,101],id,⟨rfl,rfl⟩,?_⟩
  simp only [go_sem]
theorem l7 {n:EN} (k:n.k=6∨n.k=10):(aq n).length=2:=by
 unfold aq
 rw [if_pos (by omega),mI (by omega)]
 rfl
theorem eD {n:EN} (k:n.k=7∨n.k=9∨n.k=12∨n.k=13∨n.k=14):aq n=[n.a]:=by
 unfold aq
 rw [if_neg (by omega),if_pos k]
theorem tN {n:EN} (k:n.k=11):(aq n).length=n.l.length:=by
 unfold aq
 rw [if_pos (by omega),bx]
 unfold bD aP aU
 simp [k]
theorem nF {α:Type} {l:List α} (h:l.length=1):∃ a,l=[a]:=by
 match l,h with
 | [a],_=>exact ⟨a,rfl⟩
theorem z9 {α:Type} {l:List α} (h:l.length=2):∃ a b,l=[a,b]:=by
 match l,h with
 | [a,b],_=>exact ⟨a,b,rfl⟩
theorem zM {G} {ns:List EN} {s:MS} (n0:EN) (i:Int) (env:ML) (c:MV) (k13:n0.k=13):Turn G ns 199 [enD n0,.agg [i64 i,ar env,aN none ([c].map mvD)]] s (.go 0 { s with v:=some (.mk 6 0 n0.name (.cons [] c .nil) 0 .nil []) }):=by
 intro fu d n xs hd hf
 rw [a8 (by omega)]
 obtain ⟨sn,se,sv,st⟩:=s
 dsimp only
 rw [Nat.add_zero]
 have cb:=zB (G:=G) (E0:=.sl (some 9) (ns.map enD)) (fu:=(fu:Int)) (d:=(d:Int)) (n:=n) (xs:=xs) (nd:=(sn:Int)) (en:=ar se) (v:=au sv) (o:=(0,0)) (i64 6) (i64 0) (.str n0.name) (i64 0) .nilp (.str []) (.agg [.str [],mvD c])
 have raw:HCall Tryz.prog G 199 (.at [100] 0::[enD n0,.agg [i64 i,ar env,aN none ([c].map mvD)]].map .d) (mH ns fu d n xs ⟨sn,se,sv,st⟩ (0,0)) [100,101]
   (fun r hp'=>r=.d (i64 0)∧hp'=mB (.sl (some 9) (ns.map enD)) (fu:Int) (d:Int) n xs (sn:Int) (ar se) (.at [102] 0) (0,0)++[([102],.box [.d (i64 6),.d (i64 0),.d (.str n0.name),.vw [103] 0 1,.d (i64 0),.d .nilp,.d (.str [])]),([103],.arr (some 2) [.agg [.str [],mvD c]])]):=by
  unfold mH mB at *
  rw [bW,k13,show [c].map mvD=mvD c::[] from rfl,or_cons]
  dsimp only [List.map_cons,List.map_nil]
  refine ai Tryz.func199 rfl (by decide +kernel) (by simp [Tryz.ntmps199]) (veil fun E=>?_)
  simp only [go_sem]
  refine ah mixed E fun X=>?_
  simp only [go_sem]
  refine DZ X (cs:=[.d (i64 6),.d (i64 0),.d (.str n0.name),.vw [87] 0 1,.d (i64 0),.d .nilp,.d (.str [])]) rfl ⟨by simp only [go_sem],by rw [aa];decide⟩ ?_
  simp only [go_sem]
  refine qs X (tau [([102],[89]),([103],[87])]) _ _ _ _ _ cb rfl (by simp only [go_sem];try rfl) ⟨by simp only [go_sem],by first | (rw [aa];decide) | (simp only [go_sem]<;>(try rw [aa])<;>decide)⟩ (by simp only [go_sem]) (by simp only [go_sem]) (by simp only [go_sem];try decide) (by simp only [go_sem];try omega) ?_
  simp only [go_sem]
  refine ⟨by decide +kernel,?_⟩
  refine ⟨_,_,[100,101,102,103],tau [([102],[89]),([103],[87])],⟨rfl,rfl⟩,?_⟩
  simp only [go_sem]
 have key:=q0 (G:=G) (E0:=.sl (some 9) (ns.map enD)) (fu:=(fu:Int)) (d:=(d:Int)) (n:=n) (xs:=xs) (nd:=(sn:Int)) (en:=ar se) (o:=(0,0)) (x:=[i64 6,i64 0,.str n0.name,.sl (some 2) [.agg [.str [],mvD c]],i64 0,.nilp,.str []]) rfl rfl _ rfl
  (HCall.fA raw [103] (by
   rintro r hp' ⟨rfl,rfl⟩
   unfold mB
   refine ⟨some 2,[.agg [.str [],mvD c]],rfl,?_,?_⟩
   ·simp only [go_sem]
   ·simp only [go_sem]))
 unfold mH
 dsimp only [au]
 rw [cX]
 exact key
end Go.Proofs.YtejpnabbmgpmaaaGreat

namespace Go.Proofs.YtejpnabbmgpmaaaGreat
open Go.Ab
theorem DM {α:Type} (a b d:α):[a,b].getD 1 d=b:=rfl
attribute [go_sem] DM
set_option maxHeartbeats 2000000 in
theorem BW {G} {ns:List EN} (h:Run ns) {i:Nat} (hi:i<ns.length) (env:ML) (H:List MV) (hH:∀ v∈H,v.ok ns) (hlen:H.length=(aq (ndE ns i)).length) (hpos:0<H.length) {s:MS} :
  Turn G ns 199 [enD (ndE ns i),.agg [i64 (i:Int),ar env,aN none (H.map mvD)]] s (mc ns (ndE ns i) env H s):=by
 have ht:=h.t
 have hfew:=ht.few
 have hln:=oQ ht (ndE ns i) (by rw [bj hi];exact List.getElem_mem hi)
 have hkid:∀ k∈ak (ndE ns i),0≤k:=fun k hk=>by
  obtain ⟨a,ha,_⟩:=du ht hi hk
  omega
 have hfun:∀ c:MV,c.ok ns→c.k=4→c.f<ns.length∧0≤(ndE ns c.f).a:=fun c hc hk=>by
  obtain ⟨g1,g2⟩:=hc.fn hk
  refine ⟨g1,?_⟩
  obtain ⟨a,ha,_⟩:=du ht g1 (k:=(ndE ns c.f).a) (by rw [uM (.inl g2)];simp)
  omega
 obtain ⟨M,hM⟩:∃ M,M=mc ns (ndE ns i) env H s:=⟨_,rfl⟩
 rw [← hM]
 obtain ⟨n0,hn0⟩:∃ n,n=ndE ns i:=⟨_,rfl⟩
 rw [← hn0] at hln hkid hM hlen ⊢
 unfold mc at hM
 simp only at hM
 by_cases k6:n0.k=6
 ·obtain ⟨c,w,rfl⟩:=z9 (hlen.trans (l7 (.inl k6)))
  rw [if_pos k6] at hM
  have cA:Turn G ns 252 [mvD c,mvD w] s M:=by rw [hM];exact DH c w (hfun c (hH c (by simp))) (by omega)
  rw [show [c,w].map mvD=mvD c::mvD w::[] from rfl,or_cons]
  clear hM
  intro fu d n xs hd hf
  have cA:=cA fu d n xs hd hf
  generalize b8 fu d s M=R at cA ⊢
  obtain ⟨sn,se,sv,st⟩:=s
  unfold mH mB at *
  rw [bW] at *
  dsimp only [List.map_cons,List.map_nil] at cA ⊢
  refine ai Tryz.func199 rfl (by decide +kernel) (by simp [Tryz.ntmps199]) (veil fun E=>?_)
  simp only [go_sem]
  rw [k6]
  simp only [go_sem]
  refine ah mixed E fun X=>?_
  simp only [go_sem]
  refine aR X _ _ _ _ _ cA rfl rfl ⟨by simp only [go_sem],by first | (rw [aa];decide) | (simp only [go_sem]<;>(try rw [aa])<;>decide)⟩ (by simp only [go_sem]) (by simp only [go_sem]) (by simp only [go_sem]) (by simp only [go_sem];try omega) ?_
  simp only [go_sem]
  refine ⟨by decide +kernel,?_⟩
  refine ⟨_,_,[100,101],id,⟨rfl,rfl⟩,?_⟩
  simp only [go_sem]
 rw [if_neg k6] at hM
 by_cases k7:n0.k=7
 ·obtain ⟨c,rfl⟩:=nF (hlen.trans (by rw [eD (.inl k7)];rfl))
  rw [if_pos k7] at hM
  have hb:=hkid n0.b (by rw [mI (.inr (.inl k7))];simp)
  have hM:M=MR.go 1 ⟨n0.b.toNat,.cons n0.name c env,none,s.st⟩:=hM
  rw [hM]
  rw [show [c].map mvD=mvD c::[] from rfl,or_cons]
  have cw:=pH (G:=G) env n0.name c
  intro fu d n xs hd hf
  obtain ⟨R,hR⟩:∃ R,R=b8 fu d s (MR.go 1 ⟨n0.b.toNat,.cons n0.name c env,none,s.st⟩):=⟨_,rfl⟩
  rw [← hR]
  obtain ⟨sn,se,sv,st⟩:=s
  unfold mH mB
  dsimp only [List.map_cons,List.map_nil] at hR ⊢
  have cf:=dt (G:=G) (E0:=.sl (some 9) (ns.map enD)) (n:=n) (xs:=xs) (nd:=(sn:Int)) (en:=ar se) (v:=au sv) (o:=(0,0)) (fu:=fu) (d:=d)
  have cy:=b9 (G:=G) (E0:=.sl (some 9) (ns.map enD)) (n:=n) (xs:=xs) (nd:=(sn:Int)) (en:=ar se) (v:=au sv) (o:=(0,0)) (fu:=fu) (d:=d)
  have c3:=aX (G:=G) (E0:=.sl (some 9) (ns.map enD)) (fu:=(fu:Int)) (d:=(d:Int)) (n:=n) (xs:=xs) (nd:=(sn:Int)) (en:=ar se) (v:=au sv) (o:=(0,0)) 3
  have c4:=aX (G:=G) (E0:=.sl (some 9) (ns.map enD)) (fu:=(fu:Int)) (d:=(d:Int)) (n:=n) (xs:=xs) (nd:=(sn:Int)) (en:=ar se) (v:=au sv) (o:=(0,0)) 4
  unfold mB at cf cy c3 c4
  rw [bW]
  generalize ML.cons n0.name c env=en1 at *
  refine ai Tryz.func199 rfl (by decide +kernel) (by simp [Tryz.ntmps199]) (veil fun E=>?_)
  simp only [go_sem]
  rw [k7]
  simp only [go_sem]
  by_cases hdf:d=fu
  ·refine ab E _ _ _ (cf hdf) rfl rfl ⟨by simp only [go_sem],by first | (rw [aa];decide) | (simp only [go_sem]<;>(try rw [aa])<;>decide)⟩ (by simp only [go_sem]) (by simp only [go_sem]) (by simp only [go_sem]) ?_
   rintro _ _ ⟨rfl,rfl⟩
   refine ⟨by simp only [go_sem];try omega,?_⟩
   simp only [go_sem]
   refine ab E _ _ _ c3 rfl rfl ⟨by simp only [go_sem],by first | (rw [aa];decide) | (simp only [go_sem]<;>(try rw [aa])<;>decide)⟩ (by simp only [go_sem]) (by simp only [go_sem]) (by simp only [go_sem]) ?_
   rintro _ _ ⟨rfl,rfl⟩
   refine ⟨by simp only [go_sem];try omega,?_⟩
   simp only [go_sem]
   first | rw [bn (by omega)] at hR | rw [aW (by omega)] at hR
   subst hR hdf
   refine ⟨_,_,[100,101],id,⟨rfl,rfl⟩,?_⟩
   simp only [go_sem]
  refine ab E _ _ _ (cy (by omega) hf) rfl rfl ⟨by simp only [go_sem],by first | (rw [aa];decide) | (simp only [go_sem]<;>(try rw [aa])<;>decide)⟩ (by simp only [go_sem]) (by simp only [go_sem]) (by simp only [go_sem]) ?_
  rintro _ _ ⟨rfl,rfl⟩
  refine ⟨by simp only [go_sem];try omega,?_⟩
  simp only [go_sem]
  have cl:=fun (nd':Int) (en':D) (he:ptB en'=true)=>dZ (G:=G) (E0:=.sl (some 9) (ns.map enD)) (fu:=(fu:Int)) (d:=((d+1:Nat):Int)) (n:=n) (xs:=xs) (nd:=(sn:Int)) (en:=ar se) (v:=au sv) (o:=(0,0)) nd' en' he
  unfold mB at cl
  refine ah mixed E fun X=>?_
  simp only [go_sem]
  refine bH X cw rfl rfl (by simp) ?_
  simp only [go_sem]
  refine aR X _ _ _ _ _ (cl n0.b (ar en1) (dh en1)) rfl rfl ⟨by simp only [go_sem],by first | (rw [aa];decide) | (simp only [go_sem]<;>(try rw [aa])<;>decide)⟩ (by simp only [go_sem]) (by simp only [go_sem]) (by simp only [go_sem]) (by simp only [go_sem];try omega) ?_
  simp only [go_sem]
  refine ⟨by decide +kernel,?_⟩
  rw [a8 (by omega)] at hR
  subst hR
  dsimp only [au]
  rw [show ((n0.b.toNat:Nat):Int)=n0.b by omega]
  refine ⟨_,_,[100,101],id,⟨rfl,rfl⟩,?_⟩
  simp only [go_sem]
 rw [if_neg k7] at hM
 by_cases k9:n0.k=9
 ·obtain ⟨c,rfl⟩:=nF (hlen.trans (by rw [eD (.inr (.inl k9))];rfl))
  rw [if_pos k9] at hM
  have cA:Turn G ns 253 [enD n0,.agg [i64 (i:Int),ar env,aN none ((c::[]).map mvD)]] s M:=by rw [hM];exact BH n0 i env c [] (hkid _ (by rw [v7 k9];simp)) (hkid _ (by rw [v7 k9];simp))
  rw [show (c::[]).map mvD=mvD c::[] from rfl,or_cons] at *
  clear hM
  intro fu d n xs hd hf
  have cA:=cA fu d n xs hd hf
  generalize b8 fu d s M=R at cA ⊢
  obtain ⟨sn,se,sv,st⟩:=s
  unfold mH mB at *
  rw [bW] at *
  dsimp only [List.map_cons,List.map_nil] at cA ⊢
  refine ai Tryz.func199 rfl (by decide +kernel) (by simp [Tryz.ntmps199]) (veil fun E=>?_)
  simp only [go_sem]
  rw [k9] at cA ⊢
  simp only [go_sem]
  refine ab E _ _ _ cA rfl rfl ⟨by simp only [go_sem],by first | (rw [aa];decide) | (simp only [go_sem]<;>(try rw [aa])<;>decide)⟩ (by simp only [go_sem]) (by simp only [go_sem]) (by simp only [go_sem]) ?_
  rintro _ _ ⟨rfl,rfl⟩
  refine ⟨by simp only [go_sem];try omega,?_⟩
  simp only [go_sem]
  refine ⟨_,_,[100,101],id,⟨rfl,rfl⟩,?_⟩
  simp only [go_sem]
 rw [if_neg k9] at hM
 by_cases k10:n0.k=10
 ·obtain ⟨c,w,rfl⟩:=z9 (hlen.trans (l7 (.inr k10)))
  rw [if_pos k10] at hM
  have cA:Turn G ns 254 [enD n0,mvD c,mvD w] s M:=by rw [hM];exact C6 n0 c w (hH c (by simp)).sl (hH w (by simp)).sl
  rw [show [c,w].map mvD=mvD c::mvD w::[] from rfl,or_cons]
  clear hM
  intro fu d n xs hd hf
  have cA:=cA fu d n xs hd hf
  generalize b8 fu d s M=R at cA ⊢
  obtain ⟨sn,se,sv,st⟩:=s
  unfold mH mB at *
  rw [bW] at *
  dsimp only [List.map_cons,List.map_nil] at cA ⊢
  refine ai Tryz.func199 rfl (by decide +kernel) (by simp [Tryz.ntmps199]) (veil fun E=>?_)
  simp only [go_sem]
  rw [k10] at cA ⊢
  simp only [go_sem]
  refine ah mixed E fun X=>?_
  simp only [go_sem]
  refine aR X _ _ _ _ _ cA rfl rfl ⟨by simp only [go_sem],by first | (rw [aa];decide) | (simp only [go_sem]<;>(try rw [aa])<;>decide)⟩ (by simp only [go_sem]) (by simp only [go_sem]) (by simp only [go_sem]) (by simp only [go_sem];try omega) ?_
  simp only [go_sem]
  refine ⟨by decide +kernel,?_⟩
  refine ⟨_,_,[100,101],id,⟨rfl,rfl⟩,?_⟩
  simp only [go_sem]
 rw [if_neg k10] at hM
 by_cases k11:n0.k=11
 ·rw [if_pos k11] at hM
  have hl:=hlen.trans (tN k11)
  have hM:M=MR.go 0 ⟨s.node,s.env,some (.mk 5 0 [] (eT n0.l H) 0 .nil []),s.st⟩:=hM
  rw [hM]
  have c0:=Dm (G:=G) n0 H hl.symm (fun e=>by rw [e] at hl;simp at hl;rw [hl] at hpos;simp at hpos) (by omega)
  rw [iJ (by intro e;rw [List.map_eq_nil_iff] at e;rw [e] at hpos;simp at hpos)]
  generalize MV.mk 5 0 [] (eT n0.l H) 0 .nil []=V at *
  intro fu d n xs hd hf
  obtain ⟨R,hR⟩:∃ R,R=b8 fu d s (MR.go 0 ⟨s.node,s.env,some V,s.st⟩):=⟨_,rfl⟩
  rw [← hR]
  obtain ⟨sn,se,sv,st⟩:=s
  unfold mH mB
  dsimp only [List.map_cons,List.map_nil] at hR ⊢
  have cf:=dt (G:=G) (E0:=.sl (some 9) (ns.map enD)) (n:=n) (xs:=xs) (nd:=(sn:Int)) (en:=ar se) (v:=au sv) (o:=(0,0)) (fu:=fu) (d:=d)
  have cy:=b9 (G:=G) (E0:=.sl (some 9) (ns.map enD)) (n:=n) (xs:=xs) (nd:=(sn:Int)) (en:=ar se) (v:=au sv) (o:=(0,0)) (fu:=fu) (d:=d)
  have c3:=aX (G:=G) (E0:=.sl (some 9) (ns.map enD)) (fu:=(fu:Int)) (d:=(d:Int)) (n:=n) (xs:=xs) (nd:=(sn:Int)) (en:=ar se) (v:=au sv) (o:=(0,0)) 3
  have c4:=aX (G:=G) (E0:=.sl (some 9) (ns.map enD)) (fu:=(fu:Int)) (d:=(d:Int)) (n:=n) (xs:=xs) (nd:=(sn:Int)) (en:=ar se) (v:=au sv) (o:=(0,0)) 4
  unfold mB at cf cy c3 c4
  rw [bW] at *
  have cg:=fun (u:D) (hu:ptB u=true)=>ig (G:=G) (E0:=.sl (some 9) (ns.map enD)) (fu:=(fu:Int)) (d:=((d+0:Nat):Int)) (n:=n) (xs:=xs) (nd:=(sn:Int)) (en:=ar se) (v:=au sv) (o:=(0,0)) u hu
  unfold mB at cg
  rw [Nat.add_zero] at cg
  refine ai Tryz.func199 rfl (by decide +kernel) (by simp [Tryz.ntmps199]) (veil fun E=>?_)
  simp only [go_sem]
  rw [k11] at c0 ⊢
  simp only [go_sem]
  refine ag E (c0) rfl rfl (by simp) ?_
  rintro _ rfl
  simp only [go_sem]
  refine ab E _ _ _ (cg (mvD V) (qX V)) rfl rfl ⟨by simp only [go_sem],by first | (rw [aa];decide) | (simp only [go_sem]<;>(try rw [aa])<;>decide)⟩ (by simp only [go_sem]) (by simp only [go_sem]) (by simp only [go_sem]) ?_
  rintro _ _ ⟨rfl,rfl⟩
  refine ⟨by simp only [go_sem];try omega,?_⟩
  simp only [go_sem]
  rw [a8 (by omega)] at hR
  subst hR
  dsimp only [au]
  refine ⟨_,_,[100,101],id,⟨rfl,rfl⟩,?_⟩
  simp only [go_sem]
 rw [if_neg k11] at hM
 by_cases k12:n0.k=12
 ·obtain ⟨c,rfl⟩:=nF (hlen.trans (by rw [eD (.inr (.inr (.inl k12)))];rfl))
  rw [if_pos k12] at hM
  have cA:Turn G ns 256 [enD n0,mvD c] s M:=by rw [hM];exact Cs n0 c (hH c (by simp)).ll
  rw [show [c].map mvD=mvD c::[] from rfl,or_cons]
  clear hM
  intro fu d n xs hd hf
  have cA:=cA fu d n xs hd hf
  generalize b8 fu d s M=R at cA ⊢
  obtain ⟨sn,se,sv,st⟩:=s
  unfold mH mB at *
  rw [bW] at *
  dsimp only [List.map_cons,List.map_nil] at cA ⊢
  refine ai Tryz.func199 rfl (by decide +kernel) (by simp [Tryz.ntmps199]) (veil fun E=>?_)
  simp only [go_sem]
  rw [k12] at cA ⊢
  simp only [go_sem]
  refine ah mixed E fun X=>?_
  simp only [go_sem]
  refine aR X _ _ _ _ _ cA rfl rfl ⟨by simp only [go_sem],by first | (rw [aa];decide) | (simp only [go_sem]<;>(try rw [aa])<;>decide)⟩ (by simp only [go_sem]) (by simp only [go_sem]) (by simp only [go_sem]) (by simp only [go_sem];try omega) ?_
  simp only [go_sem]
  refine ⟨by decide +kernel,?_⟩
  refine ⟨_,_,[100,101],id,⟨rfl,rfl⟩,?_⟩
  simp only [go_sem]
 rw [if_neg k12] at hM
 by_cases k13:n0.k=13
 ·obtain ⟨c,rfl⟩:=nF (hlen.trans (by rw [eD (.inr (.inr (.inr (.inl k13))))];rfl))
  rw [if_pos k13] at hM
  rw [hM]
  exact zM n0 i env c k13
 rw [if_neg k13] at hM
 have k14:n0.k=14:=by
  unfold aq at hlen
  rw [if_neg (by omega)] at hlen
  split at hlen
  ·omega
  ·rw [hlen] at hpos
   exact absurd hpos (by simp)
 obtain ⟨c,rfl⟩:=nF (hlen.trans (by rw [eD (.inr (.inr (.inr (.inr k14))))];rfl))
 have cA:Turn G ns 257 [enD n0,.agg [i64 (i:Int),ar env,aN none ((c::[]).map mvD)]] s M:=by
  rw [hM]
  exact Cl n0 i env c [] (hH c (by simp)).tg (by omega) (fun j hj=>hkid _ (by rw [ug k14];refine List.mem_cons_of_mem _ (List.mem_map.2 ⟨fdE n0.l j,?_,rfl⟩);simp [fdE,hj]))
 rw [show (c::[]).map mvD=mvD c::[] from rfl,or_cons] at *
 clear hM
 intro fu d n xs hd hf
 have cA:=cA fu d n xs hd hf
 generalize b8 fu d s M=R at cA ⊢
 obtain ⟨sn,se,sv,st⟩:=s
 unfold mH mB at *
 rw [bW] at *
 dsimp only [List.map_cons,List.map_nil] at cA ⊢
 refine ai Tryz.func199 rfl (by decide +kernel) (by simp [Tryz.ntmps199]) (veil fun E=>?_)
 simp only [go_sem]
 rw [k14] at cA ⊢
 simp only [go_sem]
 refine ab E _ _ _ cA rfl rfl ⟨by simp only [go_sem],by first | (rw [aa];decide) | (simp only [go_sem]<;>(try rw [aa])<;>decide)⟩ (by simp only [go_sem]) (by simp only [go_sem]) (by simp only [go_sem]) ?_
 rintro _ _ ⟨rfl,rfl⟩
 refine ⟨by simp only [go_sem];try omega,?_⟩
 simp only [go_sem]
 refine ⟨_,_,[100,101],id,⟨rfl,rfl⟩,?_⟩
 simp only [go_sem]
end Go.Proofs.YtejpnabbmgpmaaaGreat

