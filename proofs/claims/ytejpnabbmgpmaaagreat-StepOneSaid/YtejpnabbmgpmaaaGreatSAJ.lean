/-
  What stands below a node of a tree that may be, may be a tree. (with the parts that follow it)
-/
import Derived.Test.YtejpnabbmgpmaaaGreatSAI
import Derived.Test.YtejpnabbmgpmaaaGreatSAH
import Derived.Test.YtejpnabbmgpmaaaGreatSAG
import Derived.Test.YtejpnabbmgpmaaaGreatSAE
set_option linter.unusedSimpArgs false
namespace Go.Proofs.YtejpnabbmgpmaaaGreat
open Go.Ab
theorem gw {β:Type} (g:EF→β) (hg:∀ (f:EF) (v:Int),g { f with to:=v }=g f) (ks:List Int) (o:Nat):∀ (l:List EF) (i:Nat),(aV ks o l i).map g=l.map g
 | [],_=>rfl
 | f::r,i=>by
   rw [aV,List.map_cons,List.map_cons,gw g hg ks o r (i+1)]
   split
   ·rw [hg]
   ·rfl
theorem all_map' {α:Type} (p:α→Bool):∀ l:List α,l.all p=(l.map p).all id
 | []=>rfl
 | x::r=>by rw [List.all_cons,List.map_cons,List.all_cons,all_map' p r];rfl
theorem kl {n:EN} {ks:List Int} (h:aS n=true):aS (aK n ks)=true:=by
 unfold aS at h ⊢
 simp only [Bool.and_eq_true] at h
 obtain ⟨h1,⟨⟨h2,h3⟩,h4⟩,_⟩:=h
 have e1:de (aK n ks)=de n:=rfl
 have e2:bQ (aK n ks)=bQ n:=rfl
 have e3:bo (aK n ks)=true:=by
  unfold bo at h4 ⊢
  rw [gH]
  by_cases hp:aG n.k=true
  ·rw [if_pos hp] at h4 ⊢
   have hl:(aK n ks).l=aV ks (aI n.k) n.l 0:=by show (if aG n.k then _ else [])=_;rw [if_pos hp]
   rw [hl,all_map',gw (eD n.k) (fun f v=>by unfold eD;rfl),← all_map',cy,gw (·.nm) (fun _ _=>rfl)]
   exact h4
  ·rw [if_neg hp]
   have hl:(aK n ks).l=[]:=by show (if aG n.k then _ else [])=_;rw [if_neg hp]
   rw [hl]
   rfl
 have e4:cP (aK n ks)=true:=by
  unfold cP
  rw [gH]
  show ([if 0<aI n.k then ks.getD 0 0 else 0,if 1<aI n.k then ks.getD 1 0 else 0,if 2<aI n.k then ks.getD 2 0 else 0].drop (aI n.k)).all _=true
  have:=bn n.k
  generalize aI n.k=q at this
  match q,this with
  | 0,_=>simp
  | 1,_=>simp
  | 2,_=>simp
  | 3,_=>simp
 have e5:(aK n ks).pos=n.pos:=rfl
 rw [e1,e2,e3,e4,e5,gH,h2,h3]
 simp only [Bool.and_eq_true] at h1 ⊢
 exact ⟨h1,by simp⟩
theorem gK (ns:List EN) (i:Nat):(sbE ns i).length=(bb ns i).length:=List.length_map ..
theorem m8 {ns:List EN} (ht:bt ns) {i:Nat} (hi:i<ns.length):(bb ns i).length≤ns.length:=by
 have:=List.Nodup.length_le_of_subset (l₂:=(List.range ns.length).map fun j:Nat=>(j:Int)) (gL ht hi) (fun x hx=>by
  have:=kh ht hi hx
  exact List.mem_map.2 ⟨x.toNat,List.mem_range.2 (by omega),by omega⟩)
 simpa using this
theorem vp {ns:List EN} (ht:bt ns) {i:Nat} (hi:i<ns.length) {j:Nat} (hj:j<(bb ns i).length) :
  ∃ x:Nat,(bb ns i)[j]=(x:Int)∧x≤i∧(x:Int)∈bb ns i∧(bb ns i).idxOf (x:Int)=j∧ndE (sbE ns i) j=aK (ndE ns x) ((ag (ndE ns x)).map fun k=>((bb ns i).idxOf k:Int)):=by
 have hm:=List.getElem_mem hj
 have hx:=kh ht hi hm
 have hid:=List.Nodup.idxOf_getElem (gL ht hi) j hj
 obtain ⟨x,hxx⟩:∃ x:Nat,(bb ns i)[j]=(x:Int):=⟨((bb ns i)[j]).toNat,by omega⟩
 rw [hxx] at hm hid hx
 refine ⟨x,hxx,by omega,hm,hid,?_⟩
 have hj2:j<(sbE ns i).length:=by rw [gK];exact hj
 have hs:(sbE ns i)[j]?=some (mQ ns (bb ns i) (bb ns i)[j]):=by
  unfold sbE
  rw [List.getElem?_map,List.getElem?_eq_getElem hj]
  rfl
 rw [List.getElem?_eq_getElem hj2] at hs
 rw [ba hj2,Option.some.inj hs,hxx]
 show aK (ndE ns (x:Int).toNat) ((ag (ndE ns (x:Int).toNat)).map _)=_
 rw [Int.toNat_natCast]
theorem JQ {ns:List EN} (ht:bt ns) {i:Nat} (hi:i<ns.length) {x:Nat} (hx:(x:Int)∈bb ns i) :
  ndE (sbE ns i) ((bb ns i).idxOf (x:Int))=aK (ndE ns x) ((ag (ndE ns x)).map fun k=>((bb ns i).idxOf k:Int)):=by
 have hl:=List.idxOf_lt_length_of_mem hx
 obtain ⟨y,h1,_,_,_,h5⟩:=vp ht hi hl
 have:(bb ns i)[(bb ns i).idxOf (x:Int)]=(x:Int):=List.getElem_idxOf hl
 have:y=x:=by omega
 subst this
 exact h5
theorem zq {α:Type} (f:α→List α):∀ ks:List α,(ks.flatMap fun k=>f k++[k]).Perm (ks.flatMap f++ks)
 | []=>.refl _
 | k::r=>by
   rw [List.flatMap_cons,List.flatMap_cons,List.append_assoc,List.append_assoc]
   refine List.Perm.append_left _ ?_
   refine .trans (List.Perm.append_left [k] (zq f r)) ?_
   show (k::(r.flatMap f++r)).Perm _
   exact List.perm_middle.symm
theorem xw {α β:Type} {f g:α→List β}:∀ {ks:List α},(∀ k∈ks,(f k).Perm (g k))→(ks.flatMap f).Perm (ks.flatMap g)
 | [],_=>.refl _
 | k::r,h=>by
   rw [List.flatMap_cons,List.flatMap_cons]
   exact (h k List.mem_cons_self).append (xw fun x hx=>h x (List.mem_cons_of_mem _ hx))
theorem vb {ns:List EN} (ht:bt ns):∀ (d i:Nat),i≤d→i<ns.length→((bb ns i).flatMap (fun x=>ag (ndE ns x.toNat))++[(i:Int)]).Perm (bb ns i)
 | d,i,hd,hi=>by
   have hk:=aJ ht
   have hb:=fO ht hi
   have ih:∀ k∈ag (ndE ns i),((bg ns ns.length k).flatMap (fun x=>ag (ndE ns x.toNat))++[k]).Perm (bg ns ns.length k):=fun k hkk=>by
    obtain ⟨h1,h2⟩:=ax hk hi k hkk
    obtain ⟨k,rfl⟩:∃ q:Nat,k=(q:Int):=⟨k.toNat,by omega⟩
    cases d with
    | zero=>omega
    | succ d=>exact vb ht d k (by omega) (by omega)
   rw [hb,List.flatMap_append,List.flatMap_cons,List.flatMap_nil,List.append_nil,Int.toNat_natCast]
   refine List.Perm.append_right _ ?_
   rw [List.flatMap_assoc]
   exact (zq (fun k=>(bg ns ns.length k).flatMap (fun x=>ag (ndE ns x.toNat))) _).symm.trans (xw ih)
theorem tc {x:Int}:∀ {l:List Int},l.Nodup→x∈l→l.countP (fun y=>decide (y=x))=1
 | [],_,h=>by cases h
 | y::r,hn,h=>by
   obtain ⟨h1,h2⟩:=List.nodup_cons.1 hn
   rw [List.countP_cons]
   by_cases e:y=x
   ·subst e
    have:r.countP (fun z=>decide (z=y))=0:=List.countP_eq_zero.2 fun z hz=>by
     simp only [decide_eq_true_eq]
     intro e
     exact h1 (e ▸ hz)
    rw [this]
    simp
   ·have hr:=(List.mem_cons.1 h).resolve_left (fun e'=>e e'.symm)
    rw [tc h2 hr]
    simp [e]
theorem qo {α:Type} {p q:α→Bool}:∀ {l:List α},(∀ x∈l,p x=q x)→l.countP p=l.countP q
 | [],_=>rfl
 | x::r,h=>by rw [List.countP_cons,List.countP_cons,h x List.mem_cons_self,qo fun y hy=>h y (List.mem_cons_of_mem _ hy)]
theorem qp {α β:Type} {p:β→Bool} {f:α→β}:∀ {l:List α},(l.map f).countP p=l.countP (fun x=>p (f x))
 | []=>rfl
 | x::r=>by rw [List.map_cons,List.countP_cons,List.countP_cons,qp]
theorem DZ {α β γ:Type} {f:α→List β} {g:β→γ}:∀ {l:List α},l.flatMap (fun x=>(f x).map g)=(l.flatMap f).map g
 | []=>rfl
 | x::r=>by rw [List.flatMap_cons,List.flatMap_cons,List.map_append,DZ]
theorem Hq {α β γ:Type} {f:α→β} {g:β→List γ}:∀ {l:List α},(l.map f).flatMap g=l.flatMap (fun x=>g (f x))
 | []=>rfl
 | x::r=>by rw [List.map_cons,List.flatMap_cons,List.flatMap_cons,Hq]
theorem F0 {ns:List EN} (ht:bt ns) {i:Nat} (hi:i<ns.length):j6 (sbE ns i)=true:=by
 unfold j6
 refine List.all_eq_true.2 fun k hk=>?_
 have hk:=List.mem_range.1 hk
 rw [gK] at hk
 have hkl:k<(bb ns i).length:=by omega
 obtain ⟨c,h1,h2,h3,h4,_⟩:=vp ht hi hkl
 have hci:c≠i:=by
  intro e
  subst e
  have hb:=fO ht hi
  have hno:(c:Int) ∉ (ag (ndE ns c)).flatMap (bg ns ns.length):=fun hm=>by
   have:=gL ht hi
   rw [hb] at this
   exact (List.nodup_append.1 this).2.2 _ hm _ (List.mem_singleton_self _) rfl
  rw [hb,List.idxOf_append,if_neg hno] at h4
  rw [hb,List.length_append] at hk
  simp at h4 hk
  omega
 have e1:ph (sbE ns i) k=((bb ns i).flatMap (fun x=>ag (ndE ns x.toNat))).countP (fun y=>decide (y=(c:Int))):=by
  unfold ph sbE
  rw [Hq]
  have:∀ x∈bb ns i,ag (mQ ns (bb ns i) x)=(ag (ndE ns x.toNat)).map fun k=>((bb ns i).idxOf k:Int):=fun x _=>ct (by rw [List.length_map,aM])
  rw [kV this,DZ,qp]
  refine qo fun y hy=>?_
  obtain ⟨x,hx,hyx⟩:=List.mem_flatMap.1 hy
  have hxi:=kh ht hi hx
  obtain ⟨x,rfl⟩:∃ q:Nat,x=(q:Int):=⟨x.toNat,by omega⟩
  rw [Int.toNat_natCast] at hyx
  have hyi:=iI ht hi hx hyx
  refine decide_eq_decide.2 ⟨fun e=>?_,fun e=>?_⟩
  ·have e2:(bb ns i).idxOf y=k:=by omega
   have hyl:=List.idxOf_lt_length_of_mem hyi
   have:(bb ns i)[(bb ns i).idxOf y]=y:=List.getElem_idxOf hyl
   simp only [e2] at this
   rw [← this,h1]
  ·rw [e,h4]
 rw [e1]
 have hp:=(vb ht i i (Nat.le_refl _) hi).countP_eq (fun y=>decide (y=(c:Int)))
 rw [List.countP_append,tc (gL ht hi) h3] at hp
 have:List.countP (fun y=>decide (y=(c:Int))) [(i:Int)]=0:=List.countP_eq_zero.2 fun z hz=>by
  rw [List.mem_singleton] at hz
  simp only [decide_eq_true_eq]
  omega
 rw [this] at hp
 exact decide_eq_true (by omega)
theorem HF {d d':List Int} {f:Int→Int}:∀ {ks:List Int},(∀ c∈ks,d.getD (f c).toNat 0=d'.getD c.toNat 0)→mx d (ks.map f)=mx d' ks:=by
 suffices g:∀ (ks:List Int) (m:Int),(∀ c∈ks,d.getD (f c).toNat 0=d'.getD c.toNat 0)→(ks.map f).foldl (fun m k=>max m (d.getD k.toNat 0)) m=ks.foldl (fun m k=>max m (d'.getD k.toNat 0)) m from fun {ks} h=>g ks 0 h
 intro ks
 induction ks with
 | nil=>intro m _;rfl
 | cons c r ih =>
   intro m h
   rw [List.map_cons,List.foldl_cons,List.foldl_cons,h c List.mem_cons_self]
   exact ih _ fun x hx=>h x (List.mem_cons_of_mem _ hx)
theorem JK {d:List Int} {ks:List Int} {c:Int} (h:c∈ks):d.getD c.toNat 0≤mx d ks:=by
 suffices g:∀ (ks:List Int) (m:Int),m≤ks.foldl (fun m k=>max m (d.getD k.toNat 0)) m∧∀ c∈ks,d.getD c.toNat 0≤ks.foldl (fun m k=>max m (d.getD k.toNat 0)) m from (g ks 0).2 c h
 intro ks
 induction ks with
 | nil=>exact fun m=>⟨Int.le_refl _,fun _ h=>by cases h⟩
 | cons x r ih =>
   intro m
   obtain ⟨h1,h2⟩:=ih (max m (d.getD x.toNat 0))
   rw [List.foldl_cons]
   refine ⟨by omega,fun c hc=>?_⟩
   rcases List.mem_cons.1 hc with rfl | hc
   ·omega
   ·exact h2 c hc
theorem o0 {ns:List EN} {i:Nat} (hi:i<ns.length) (hk:∀ c∈ag (ndE ns i),0≤c∧c<(i:Int)):(bV ns []).getD i 0=mx (bV ns []) (ag (ndE ns i))+1:=by
 rw [Hh hi]
 have:=HF (d:=bE ns i) (d':=bV ns []) (f:=id) (ks:=ag (ndE ns i)) fun c hc=>by
  have:=hk c hc
  exact (DO (Nat.le_of_lt hi) (show c.toNat<i by omega)).symm
 rw [List.map_id] at this
 rw [this]
theorem pJ {ns:List EN} (ht:bt ns):∀ (d k:Nat),ns.length-1-k≤d→k<ns.length→(bV ns []).getD k 0≤km ns
 | d,k,hd,hk=>by
   have hp:=ht.pos
   rcases m5 ht hk with ⟨h1,_⟩ | ⟨j,h1,h2,h3,_⟩
   ·subst h1
    exact Int.le_refl _
   ·cases d with
    | zero=>omega
    | succ d =>
      have ih:=pJ ht d j (by omega) h2
      have h4:=o0 h2 (ax (aJ ht) h2)
      have h5:=JK (d:=bV ns []) h3
      rw [Int.toNat_natCast] at h5
      omega
theorem CX {ns:List EN} (ht:bt ns) {i:Nat} (hi:i<ns.length) {j:Nat} (hj:j<(bb ns i).length):∀ c∈ag (ndE (sbE ns i) j),0≤c∧c<(j:Int):=fun c hc=>by
 obtain ⟨x,h1,h2,h3,h4,h5⟩:=vp ht hi hj
 rw [h5,ct (by rw [List.length_map,aM])] at hc
 obtain ⟨k,hk,rfl⟩:=List.mem_map.1 hc
 obtain ⟨g1,g2⟩:=ax (aJ ht) (by omega) k hk
 obtain ⟨k,rfl⟩:∃ q:Nat,k=(q:Int):=⟨k.toNat,by omega⟩
 have:=si ht hi h3 hk
 omega
theorem zk {ns:List EN} (ht:bt ns) {i:Nat} (hi:i<ns.length):∀ (m j:Nat),j<m→(hj:j<(bb ns i).length)→(bV (sbE ns i) []).getD j 0=(bV ns []).getD ((bb ns i)[j]).toNat 0
 | 0,_,h,_=>absurd h (Nat.not_lt_zero _)
 | m+1,j,hm,hj=>by
   obtain ⟨x,h1,h2,h3,h4,h5⟩:=vp ht hi hj
   rw [o0 (by rw [gK];exact hj) (CX ht hi hj),h1,Int.toNat_natCast,o0 (by omega) (ax (aJ ht) (by omega)),h5,ct (by rw [List.length_map,aM])]
   congr 1
   refine HF fun c hc=>?_
   obtain ⟨g1,g2⟩:=ax (aJ ht) (by omega) c hc
   have hci:=iI ht hi h3 hc
   obtain ⟨c,rfl⟩:∃ q:Nat,c=(q:Int):=⟨c.toNat,by omega⟩
   have hlt:=si ht hi h3 hc
   have hcl:=List.idxOf_lt_length_of_mem hci
   rw [Int.toNat_natCast,Int.toNat_natCast,zk ht hi m _ (by omega) hcl,List.getElem_idxOf hcl,Int.toNat_natCast]
theorem wA {ns:List EN} (ht:bt ns) {i:Nat} (hi:i<ns.length):bL (sbE ns i)=0:=by
 have hb:=fO ht hi
 have hL:(bb ns i).length=((ag (ndE ns i)).flatMap (bg ns ns.length)).length+1:=by rw [hb,List.length_append];rfl
 have hfew:=m8 ht hi
 have h600:=ht.few
 unfold bL
 rw [if_neg (by rw [gK];omega)]
 have hok:okE (sbE ns i)=true:=by
  unfold okE
  refine List.all_eq_true.2 fun j hj=>?_
  have hj:=List.mem_range.1 hj
  rw [gK] at hj
  obtain ⟨x,h1,h2,h3,h4,h5⟩:=vp ht hi hj
  have hr:aS (ndE (sbE ns i) j)=true:=by rw [h5];exact kl (ht.right x (by omega))
  rw [hr,Bool.true_and]
  unfold cI
  rw [Bool.and_eq_true]
  refine ⟨List.all_eq_true.2 fun c hc=>?_,?_⟩
  ·have:=CX ht hi hj c hc
   simp only [Bool.and_eq_true,decide_eq_true_eq]
   exact this
  ·have hlk:=ht.link x (by omega)
   unfold cI at hlk
   rw [Bool.and_eq_true] at hlk
   rw [h5,gH]
   by_cases h8:(ndE ns x).k=8
   ·have h9:=hlk.2
    simp only [h8,Bool.or_eq_true,decide_eq_true_eq] at h9
    have h9:=h9.resolve_left (by simp)
    have hke:ag (ndE ns x)=[(ndE ns x).a,(ndE ns x).b]:=by simp [ag,h8,aI,aG]
    have ham:(ndE ns x).a∈ag (ndE ns x):=by rw [hke];exact List.mem_cons_self
    obtain ⟨g1,g2⟩:=ax (aJ ht) (by omega) _ ham
    have hai:=iI ht hi h3 ham
    have e:(aK (ndE ns x) ((ag (ndE ns x)).map fun k=>((bb ns i).idxOf k:Int))).a=((bb ns i).idxOf (ndE ns x).a:Int):=by
     show (if 0<aI (ndE ns x).k then _ else _)=_
     rw [if_pos (by rw [h8];decide),hke]
     rfl
    rw [e,Int.toNat_natCast]
    obtain ⟨a,ha⟩:∃ a:Nat,(ndE ns x).a=(a:Int):=⟨(ndE ns x).a.toNat,by omega⟩
    rw [ha,Int.toNat_natCast] at h9
    rw [ha] at hai ⊢
    rw [JQ ht hi hai,gH,h9]
    simp
   ·simp [h8]
 rw [hok,F0 ht hi,Bool.and_self,if_pos rfl]
 have hd:km (sbE ns i)=(bV ns []).getD i 0:=by
  have hlt:(sbE ns i).length-1<(bb ns i).length:=by rw [gK];omega
  unfold km
  rw [zk ht hi _ _ (Nat.lt_succ_self _) hlt]
  congr 1
  have:(bb ns i)[(sbE ns i).length-1]=(i:Int):=by
   simp only [gK,hb]
   simp
  rw [this,Int.toNat_natCast]
 have:=pJ ht _ i (Nat.le_refl _) hi
 have:=ht.deep
 rw [if_neg (by omega)]
end Go.Proofs.YtejpnabbmgpmaaaGreat

namespace Go.Proofs.YtejpnabbmgpmaaaGreat
open Go.Ab
def GL (n:EN):Prop:=aS n=true∧inR n.n
theorem GL.with {n:EN} (ks:List Int) (h:GL n):GL (aK n ks):=⟨kl h.1,h.2⟩
mutual
def RT.rt:RT→Prop
 | .mk n ts=>GL n∧RT.rts ts
def RT.rts:List RT→Prop
 | []=>True
 | t::r=>t.rt∧RT.rts r
end
theorem kU:∀ ts:List RT,RT.rts ts↔∀ t∈ts,t.rt
 | []=>by simp [RT.rts]
 | t::r=>by rw [RT.rts,kU r];simp
theorem HA {P:EN→Prop} (hP:∀ n ks,P n→P (aK n ks)):∀ (ls:List (List EN)) (acc:List EN) (rs:List Int),(∀ l∈ls,∀ x∈l,P x)→(∀ x∈acc,P x)→∀ x∈(bl ls acc rs).1,P x
 | [],_,_,_,h=>h
 | l::r,acc,rs,hl,h=>by
   refine HA hP r _ _ (fun x hx=>hl x (List.mem_cons_of_mem _ hx)) fun x hx=>?_
   rcases List.mem_append.1 hx with hx | hx
   ·exact h x hx
   ·obtain ⟨y,hy,rfl⟩:=List.mem_map.1 hx
    exact hP _ _ (hl l List.mem_cons_self y hy)
mutual
theorem bY:∀ t:RT,t.rt→∀ x∈t.enc,GL x
 | .mk n ts,h,x,hx=>by
   rw [RT.rt] at h
   rw [RT.enc] at hx
   rcases List.mem_append.1 hx with hx | hx
   ·exact HA (fun _ ks h=>h.with ks) _ _ _ (nU ts h.2) (fun _ h=>by cases h) x hx
   ·rw [List.mem_singleton.1 hx]
    exact h.1.with _
theorem nU:∀ ts:List RT,RT.rts ts→∀ l∈RT.encs ts,∀ x∈l,GL x
 | [],_,l,hl=>by rw [RT.encs] at hl;cases hl
 | t::r,h,l,hl=>by
   rw [RT.rts] at h
   rw [RT.encs] at hl
   rcases List.mem_cons.1 hl with rfl | hl
   ·exact bY t h.1
   ·exact nU r h.2 l hl
end
theorem sj {s:List UInt8} (h:cF s=true):s.length≤20:=by
 unfold cF bO at h
 simp only [Bool.and_eq_true,decide_eq_true_eq] at h
 exact h.1.1.1.2
theorem Bm {s:List UInt8} (h:jc s=true):s.length≤20:=by
 unfold jc bO at h
 simp only [Bool.and_eq_true,decide_eq_true_eq] at h
 exact h.1.1.2
theorem lE {n:EN} (h:aS n=true):n.s.length≤200:=by
 unfold aS bQ at h
 simp only [Bool.and_eq_true] at h
 have h1:=h.2.1.1.2
 (repeat' split at h1)<;>simp only [Bool.and_eq_true,decide_eq_true_eq,List.isEmpty_iff] at h1
 ·rw [h1];decide
 ·rw [h1.2];decide
 ·rw [h1.2];decide
 ·exact h1.2
 ·rw [h1.2];decide
theorem nt {n:EN} (h:aS n=true):ff BIG n:=by
 have hl:=fy h
 have hs:=lE h
 have hx:(20:Nat)≤BIG:=by unfold BIG;omega
 refine ⟨?_,by unfold BIG;omega,by omega,fun f hf=>?_⟩
 ·unfold aS de at h
  simp only [Bool.and_eq_true] at h
  have h1:=h.2.1.1.1
  (repeat' split at h1)
  ·have:=sj h1;omega
  ·have:=Bm h1;omega
  ·rw [List.isEmpty_iff] at h1
   rw [h1]
   exact Nat.zero_le _
 ·unfold aS bo at h
  simp only [Bool.and_eq_true] at h
  have h1:=h.2.1.2
  split at h1
  ·simp only [Bool.and_eq_true] at h1
   have h2:=List.all_eq_true.1 h1.1 f hf
   unfold eD at h2
   split at h2<;>simp only [Bool.and_eq_true,List.isEmpty_iff] at h2
   ·have:=sj h2.1
    rw [h2.2]
    exact ⟨by omega,Nat.zero_le _⟩
   ·have:=Bm h2.1
    have:=sj h2.2
    exact ⟨by omega,by omega⟩
  ·rw [List.isEmpty_iff] at h1
   rw [h1] at hf
   cases hf
theorem Hy {ns:List EN} (ht:bt ns) (hr:∀ n∈ns,inR n.n):∀ (m i:Nat),i<m→i<ns.length→(rtE ns m i).rt
 | 0,_,h,_=>absurd h (Nat.not_lt_zero _)
 | m+1,i,him,hi=>by
   rw [rtE,RT.rt,Int.toNat_natCast,kU]
   refine ⟨GL.with _ ⟨ht.right i hi,hr _ (by rw [ba hi];exact List.getElem_mem hi)⟩,fun t htm=>?_⟩
   obtain ⟨k,hkk,rfl⟩:=List.mem_map.1 htm
   obtain ⟨h3,h4⟩:=ax (aJ ht) hi k hkk
   obtain ⟨k,rfl⟩:∃ q:Nat,k=(q:Int):=⟨k.toNat,by omega⟩
   exact Hy ht hr m k (by omega) (by omega)
structure RT.good (t:RT):Prop where
 ok:t.ok
 rt:t.rt
theorem dW {ns:List EN} (ht:bt ns) (hr:∀ n∈ns,inR n.n) {i:Nat} (hi:i<ns.length):(trE ns i).good:=⟨yK (aJ ht) hi,Hy ht hr _ _ hi hi⟩
theorem bk {n:EN} {ts:List RT}:(RT.mk n ts).good↔(aA n=ts.length∧can n=n∧GL n)∧∀ t∈ts,t.good:=by
 constructor
 ·rintro ⟨h1,h2⟩
  rw [RT.ok,m6] at h1
  rw [RT.rt,kU] at h2
  exact ⟨⟨h1.1.1,h1.1.2,h2.1⟩,fun t ht=>⟨h1.2 t ht,h2.2 t ht⟩⟩
 ·rintro ⟨⟨h1,h2,h3⟩,h4⟩
  refine ⟨?_,?_⟩
  ·rw [RT.ok,m6]
   exact ⟨⟨h1,h2⟩,fun t ht=>(h4 t ht).ok⟩
  ·rw [RT.rt,kU]
   exact ⟨h3,fun t ht=>(h4 t ht).rt⟩
def az:RT:=.mk (can (ndE [] 0)) []
def RT.lab:RT→EN
 | .mk n _=>n
def RT.kids:RT→List RT
 | .mk _ ts=>ts
def RT.kid (t:RT) (j:Nat):RT:=t.kids.getD j az
mutual
def b7:RT→Bool
 | .mk n ts=>if n.k=11∨n.k=13 then vm ts else decide (n.k=1) || decide (n.k=2) || decide (n.k=3) || decide (n.k=5)
def vm:List RT→Bool
 | []=>true
 | t::r=>b7 t && vm r
end
theorem pA:∀ ts:List RT,vm ts=ts.all b7
 | []=>by rw [vm];rfl
 | t::r=>by rw [vm,pA r];rfl
def cW (n:EN) (k:Nat) (x:List UInt8):Bool :=
 if n.k=5∨n.k=8 then n.name == x else if n.k=7 then (n.name == x) && decide (k=1) else if n.k=14 then decide (0<k) && ((fdE n.l (k-1)).var == x) else false
mutual
def bW (x:List UInt8) (v:RT):RT→RT
 | .mk n ts=>if n.k=4∧n.name=x then v else .mk n (eC x v n 0 ts)
def eC (x:List UInt8) (v:RT) (n:EN):Nat→List RT→List RT
 | _,[]=>[]
 | k,t::r=>(if cW n k x then t else bW x v t)::eC x v n (k+1) r
end
theorem jJ (x:List UInt8) (v:RT) (n:EN):∀ (k:Nat) (ts:List RT),(eC x v n k ts).length=ts.length
 | _,[]=>by rw [eC]
 | k,t::r=>by rw [eC,List.length_cons,List.length_cons,jJ x v n (k+1) r]
mutual
theorem fT {x:List UInt8} {v:RT} (hv:v.good):∀ t:RT,t.good→(bW x v t).good
 | .mk n ts,h=>by
   rw [bW]
   split
   ·exact hv
   ·rw [bk] at h ⊢
    refine ⟨⟨?_,h.1.2⟩,mn hv n 0 ts h.2⟩
    rw [h.1.1]
    exact (jJ x v n 0 ts).symm
theorem mn {x:List UInt8} {v:RT} (hv:v.good) (n:EN):∀ (k:Nat) (ts:List RT),(∀ t∈ts,t.good)→∀ t∈eC x v n k ts,t.good
 | _,[],_,t,ht=>by rw [eC] at ht;cases ht
 | k,t::r,h,u,hu=>by
   rw [eC] at hu
   rcases List.mem_cons.1 hu with rfl | hu
   ·split
    ·exact h t List.mem_cons_self
    ·exact fT hv t (h t List.mem_cons_self)
   ·exact mn hv n (k+1) r (fun y hy=>h y (List.mem_cons_of_mem _ hy)) u hu
end
def RT.sz (t:RT):Nat:=t.enc.length
def szs (ts:List RT):Nat:=(ts.map RT.sz).sum
theorem jM (ts:List RT):br (RT.encs ts)=szs ts:=by
 unfold br szs
 rw [bu,List.map_map]
 rfl
theorem er (n:EN) (ts:List RT):(RT.mk n ts).sz=szs ts+1:=by
 unfold RT.sz
 rw [RT.enc,cY,jM]
theorem bh (t:RT) (r:List RT):szs (t::r)=t.sz+szs r:=by simp [szs]
theorem dm:∀ t:RT,1≤t.sz
 | .mk n ts=>by rw [er];omega
mutual
theorem wT {x:List UInt8} {v:RT}:∀ t:RT,(bW x v t).sz≤t.sz*v.sz
 | .mk n ts=>by
   have hv:=dm v
   rw [bW]
   split
   ·rw [er,Nat.add_mul]
    omega
   ·have:=q5 (x:=x) (v:=v) n 0 ts
    rw [er,er,Nat.add_mul]
    omega
theorem q5 {x:List UInt8} {v:RT} (n:EN):∀ (k:Nat) (ts:List RT),szs (eC x v n k ts)≤szs ts*v.sz
 | _,[]=>by rw [eC];exact Nat.zero_le _
 | k,t::r=>by
   have hv:=dm v
   have h1:=wT (x:=x) (v:=v) t
   have h2:=q5 (x:=x) (v:=v) n (k+1) r
   rw [eC,bh,bh,Nat.add_mul]
   split
   ·have:t.sz*1≤t.sz*v.sz:=Nat.mul_le_mul_left _ hv
    omega
   ·omega
end
theorem fH {t u:RT} (h:u∈t.kids):u.sz<t.sz:=by
 cases t with
 | mk n ts =>
   rw [er]
   have:u∈ts:=h
   have key:∀ ts:List RT,u∈ts→u.sz≤szs ts:=by
    intro ts
    induction ts with
    | nil=>intro h;cases h
    | cons x r ih =>
      intro h
      rw [bh]
      rcases List.mem_cons.1 h with rfl | h
      ·omega
      ·have:=ih h;omega
   have:=key ts this
   omega
theorem ik {t:RT} {j:Nat} (h:j<t.kids.length):t.kid j∈t.kids:=by
 unfold RT.kid
 rw [List.getD_eq_getElem?_getD,List.getElem?_eq_getElem h]
 exact List.getElem_mem h
theorem fg {t:RT} (h:t.good) {j:Nat} (hj:j<t.kids.length):(t.kid j).good:=by
 have hm:=ik hj
 cases t with
 | mk n ts=>exact (bk.1 h).2 _ hm
def oQ (n:EN):RT:=.mk (can n) []
def e7 (n a b:EN):Int × RT :=
 if n.n=7 then (if a.k=3∧b.k=3 then (5,oQ ⟨3,0,0,0,0,[],(a.s++b.s).take 200,[],n.pos⟩) else (4,az))
 else if a.k=1∧b.k=1 then (if iy n.n b.n≠0 then (2,az) else (5,oQ ⟨if 5≤n.n then 2 else 1,0,0,0,dD n.n a.n b.n,[],[],[],n.pos⟩)) else (4,az)
def cG (n:EN) (f:RT):RT :=
 if f.lab.name=n.name then f else .mk (can ⟨5,0,0,0,0,f.lab.name,[],[],f.lab.pos⟩) [.mk (can ⟨8,0,0,0,0,n.name,[],[],n.pos⟩) [f,f.kid 0]]
def dy (l:List EF) (x:List UInt8):Nat:=l.findIdx fun f=>f.nm == x
def ar (n:EN) (ts:List RT):Int × RT :=
 let c:=fun j=>ts.getD j az
 if n.k=6 then (if (c 0).lab.k=5 then (5,bW (c 0).lab.name (c 1) ((c 0).kid 0)) else (4,az))
 else if n.k=7 then (5,bW n.name (c 0) (c 1))
 else if n.k=8 then (5,bW n.name (cG n (c 0)) (c 1))
 else if n.k=9 then (if (c 0).lab.k=2 then (5,if (c 0).lab.n=1 then c 1 else c 2) else (4,az))
 else if n.k=10 then e7 n (c 0).lab (c 1).lab
 else if n.k=12 then (if (c 0).lab.k=11∧dy (c 0).lab.l n.name<(c 0).lab.l.length then (5,(c 0).kid (dy (c 0).lab.l n.name)) else (4,az))
 else if n.k=14 then (if (c 0).lab.k=13∧dy n.l (c 0).lab.name<n.l.length then (5,bW (fdE n.l (dy n.l (c 0).lab.name)).var ((c 0).kid 0) (c (dy n.l (c 0).lab.name+1))) else (4,az))
 else (4,az)
def fI (n:EN) (k:Nat):Bool:=if n.k=6∨n.k=10∨n.k=11 then true else if n.k=7∨n.k=9∨n.k=12∨n.k=13∨n.k=14 then decide (k=0) else false
mutual
def stT:RT→Int × RT
 | .mk n ts=>match mS n 0 ts with
   | none=>ar n ts
   | some (h,us)=>if h=5 then (5,.mk n us) else (h,az)
def mS (n:EN):Nat→List RT→Option (Int × List RT)
 | _,[]=>none
 | k,t::r=>if fI n k && !b7 t then some ((stT t).1,(stT t).2::r) else (mS n (k+1) r).map fun q=>(q.1,t::q.2)
end
end Go.Proofs.YtejpnabbmgpmaaaGreat

namespace Go.Proofs.YtejpnabbmgpmaaaGreat
open Go.Ab
mutual
def RT.lk:RT→Prop
 | .mk n ts=>(n.k=8→(ts.getD 0 az).lab.k=5)∧RT.lks ts
def RT.lks:List RT→Prop
 | []=>True
 | t::r=>t.lk∧RT.lks r
end
theorem zt:∀ ts:List RT,RT.lks ts↔∀ t∈ts,t.lk
 | []=>by simp [RT.lks]
 | t::r=>by rw [RT.lks,zt r];simp
theorem ck (n:EN):(can n).k=n.k:=rfl
theorem iZ (n:EN):(can n).name=n.name:=rfl
theorem Jy (n:EN):(can n).n=n.n:=rfl
theorem Bh (ns:List EN) (m:Nat) (i:Nat) (h:0<m):(rtE ns m i).lab=can (ndE ns i):=by
 obtain ⟨m,rfl⟩:∃ q,m=q+1:=⟨m-1,by omega⟩
 rw [rtE,Int.toNat_natCast]
 rfl
theorem xz {ns:List EN} (ht:bt ns):∀ (m i:Nat),i<m→i<ns.length→(rtE ns m i).lk
 | 0,_,h,_=>absurd h (Nat.not_lt_zero _)
 | m+1,i,him,hi=>by
   rw [rtE,RT.lk,Int.toNat_natCast,zt]
   refine ⟨fun h8=>?_,fun t htm=>?_⟩
   ·rw [ck] at h8
    have hlk:=ht.link i hi
    unfold cI at hlk
    rw [Bool.and_eq_true] at hlk
    have h9:=hlk.2
    simp only [h8,Bool.or_eq_true,decide_eq_true_eq] at h9
    have h9:=h9.resolve_left (by simp)
    have hke:ag (ndE ns i)=[(ndE ns i).a,(ndE ns i).b]:=by simp [ag,h8,aI,aG]
    obtain ⟨g1,g2⟩:=ax (aJ ht) hi (ndE ns i).a (by rw [hke];exact List.mem_cons_self)
    rw [hke]
    obtain ⟨a,ha⟩:∃ a:Nat,(ndE ns i).a=(a:Int):=⟨(ndE ns i).a.toNat,by omega⟩
    rw [ha] at h9 ⊢
    rw [Int.toNat_natCast] at h9
    show (rtE ns m a).lab.k=5
    rw [Bh ns m a (by omega),ck,h9]
   ·obtain ⟨k,hkk,rfl⟩:=List.mem_map.1 htm
    obtain ⟨h3,h4⟩:=ax (aJ ht) hi k hkk
    obtain ⟨k,rfl⟩:∃ q:Nat,k=(q:Int):=⟨k.toNat,by omega⟩
    exact xz ht m k (by omega) (by omega)
theorem eP {t:RT} (h:t.good):t.kids.length=aA t.lab:=by
 cases t with
 | mk n ts=>exact (bk.1 h).1.1.symm
theorem ra {t:RT} (h:t.good):GL t.lab:=by
 cases t with
 | mk n ts=>exact (bk.1 h).1.2.2
theorem cC {n:EN} (h:aG n.k=false):aA n=aI n.k:=by unfold aA;rw [h];rfl
theorem gp {n:EN} (h:aS n=true):0≤n.pos∧n.pos≤1048576:=by
 unfold aS at h
 simp only [Bool.and_eq_true,decide_eq_true_eq] at h
 exact ⟨h.1.1.2,h.1.2⟩
theorem gW {n:EN} (h:aS n=true) (hk:n.k=4∨n.k=5∨n.k=7∨n.k=8∨n.k=12):cF n.name=true:=by
 unfold aS de at h
 simp only [Bool.and_eq_true,if_pos hk] at h
 exact h.2.1.1.1
theorem uL:inR 0:=⟨by decide,by decide⟩
theorem l9 {n:EN} (hw:aA n=0) (h:GL n):(oQ n).good∧(oQ n).sz=1 :=
 ⟨bk.2 ⟨⟨by rw [je,hw];rfl,jT n,h.with _⟩,fun _ h=>by cases h⟩,by unfold oQ;rw [er];rfl⟩
theorem FF {k a b:Int}:inR (dD k a b):=by
 unfold dD uW
 (repeat' split)<;>first | exact HR _ | exact ⟨by omega,by omega⟩
theorem Ai {n a b:EN} (hn:aS n=true) (h5:(e7 n a b).1=5):(e7 n a b).2.good∧(e7 n a b).2.sz=1:=by
 obtain ⟨p0,p1⟩:=gp hn
 unfold e7 at h5 ⊢
 split at h5
 ·rename_i h7
  rw [if_pos h7]
  split at h5
  ·rename_i hk
   rw [if_pos hk]
   refine l9 rfl ⟨?_,uL⟩
   simp [aS,de,bQ,bo,cP,aG,aI,p0,p1]
   omega
  ·exact absurd h5 (by show ¬ (4:Int)=5;decide)
 ·rename_i h7
  rw [if_neg h7]
  split at h5
  ·rename_i hk
   rw [if_pos hk]
   split at h5
   ·exact absurd h5 (by show ¬ (2:Int)=5;decide)
   ·rename_i he
    rw [if_neg he]
    have hr:inR (dD n.n a.n b.n):=FF
    by_cases h:5≤n.n
    ·simp only [if_pos h]
     have hz:dD n.n a.n b.n=0∨dD n.n a.n b.n=1:=by
      have:n.n=5∨n.n=6:=by
       unfold iy at he
       (repeat' split at he)<;>first | omega | (exact absurd he (by decide))
      rcases this with e | e
      ·rw [e]
       show (if a.n<b.n then (1:Int) else 0)=0∨(if a.n<b.n then (1:Int) else 0)=1
       split<;>simp
      ·rw [e]
       show (if a.n=b.n then (1:Int) else 0)=0∨(if a.n=b.n then (1:Int) else 0)=1
       split<;>simp
     refine l9 rfl ⟨?_,hr⟩
     rcases hz with e | e<;>simp [aS,de,bQ,bo,cP,aG,aI,p0,p1,e]
    ·simp only [if_neg h]
     refine l9 rfl ⟨?_,hr⟩
     simp [aS,de,bQ,bo,cP,aG,aI,p0,p1]
  ·exact absurd h5 (by show ¬ (4:Int)=5;decide)
theorem ku {ts:List RT} {j:Nat} (h:j<ts.length):ts.getD j az∈ts:=by
 rw [List.getD_eq_getElem?_getD,List.getElem?_eq_getElem h]
 exact List.getElem_mem h
theorem jC {nm:List UInt8} {p k:Int} (hn:cF nm=true) (hp:0≤p∧p≤1048576) (hk:k=5∨k=8):GL ⟨k,0,0,0,0,nm,[],[],p⟩:=by
 refine ⟨?_,uL⟩
 rcases hk with rfl | rfl<;>simp [aS,de,bQ,bo,cP,aG,aI,hp.1,hp.2,hn]
theorem ja {n:EN} {f:RT} (hn:aS n=true) (hk:n.k=8) (hf:f.good) (h5:f.lab.k=5):(cG n f).good∧(cG n f).sz≤2*f.sz+1:=by
 have hfl:=ra hf
 have hkl:f.kids.length=1:=by rw [eP hf,cC (by rw [h5];rfl),h5];rfl
 have hkg:=fg hf (j:=0) (by omega)
 have hks:=fH (ik (t:=f) (j:=0) (by omega))
 unfold cG
 split
 ·exact ⟨hf,by omega⟩
 ·have g1:(RT.mk (can ⟨8,0,0,0,0,n.name,[],[],n.pos⟩) [f,f.kid 0]).good:=bk.2 ⟨⟨rfl,jT _,(jC (gW hn (.inr (.inr (.inr (.inl hk))))) (gp hn) (.inr rfl)).with _⟩,fun t ht=>by
   rcases List.mem_cons.1 ht with rfl | ht
   ·exact hf
   ·rw [List.mem_singleton.1 ht];exact hkg⟩
  refine ⟨bk.2 ⟨⟨rfl,jT _,(jC (gW hfl.1 (.inr (.inl h5))) (gp hfl.1) (.inl rfl)).with _⟩,fun t ht=>by rw [List.mem_singleton.1 ht];exact g1⟩,?_⟩
  rw [er,bh,er,bh,bh]
  show f.sz+((f.kid 0).sz+0)+1+0+1≤_
  omega
theorem Iw {a b S:Nat} (ha:a≤S) (hb:b≤2*S):a*b≤2*(S*S):=by
 have:=Nat.mul_le_mul ha hb
 rw [Nat.mul_left_comm] at this
 exact this
theorem rf {x:List UInt8} {v t:RT} {S:Nat} (hv:v.sz≤2*S) (ht:t.sz≤S):(bW x v t).sz≤2*(S*S):=Nat.le_trans (wT t) (Iw ht hv)
theorem yU {a S:Nat} (h:a≤S):a≤2*(S*S):=by
 have:S*1≤S*S∨S=0:=by
  cases S with
  | zero=>exact .inr rfl
  | succ S=>exact .inl (Nat.mul_le_mul_left _ (by omega))
 omega
theorem vZ {n:EN} {ts:List RT} (h:(RT.mk n ts).good) (hl:n.k=8→(ts.getD 0 az).lab.k=5) (h5:(ar n ts).1=5) :
  (ar n ts).2.good∧(ar n ts).2.sz≤2*((RT.mk n ts).sz*(RT.mk n ts).sz):=by
 obtain ⟨⟨hw,_,hr⟩,hg⟩:=bk.1 h
 have hS:∀ j,j<ts.length→(ts.getD j az).good∧(ts.getD j az).sz<(RT.mk n ts).sz:=fun j hj=>⟨hg _ (ku hj),fH (t:=.mk n ts) (ku hj)⟩
 generalize (RT.mk n ts).sz=S at hS ⊢
 unfold ar at h5 ⊢
 simp only at h5 ⊢
 by_cases k6:n.k=6
 ·rw [cC (by rw [k6];rfl),k6] at hw
  have hw:ts.length=2:=hw.symm
  obtain ⟨a1,a2⟩:=hS 0 (by omega)
  obtain ⟨b1,b2⟩:=hS 1 (by omega)
  rw [if_pos k6] at h5 ⊢
  split at h5
  ·rename_i hk
   rw [if_pos hk]
   have hkl:(ts.getD 0 az).kids.length=1:=by rw [eP a1,cC (by rw [hk];rfl),hk];rfl
   have hks:=fH (ik (t:=ts.getD 0 az) (j:=0) (by omega))
   exact ⟨fT b1 _ (fg a1 (by omega)),rf (by omega) (by omega)⟩
  ·exact absurd h5 (by show ¬ (4:Int)=5;decide)
 rw [if_neg k6] at h5 ⊢
 by_cases k7:n.k=7
 ·rw [cC (by rw [k7];rfl),k7] at hw
  have hw:ts.length=2:=hw.symm
  obtain ⟨a1,a2⟩:=hS 0 (by omega)
  obtain ⟨b1,b2⟩:=hS 1 (by omega)
  rw [if_pos k7]
  exact ⟨fT a1 _ b1,rf (by omega) (by omega)⟩
 rw [if_neg k7] at h5 ⊢
 by_cases k8:n.k=8
 ·rw [cC (by rw [k8];rfl),k8] at hw
  have hw:ts.length=2:=hw.symm
  obtain ⟨a1,a2⟩:=hS 0 (by omega)
  obtain ⟨b1,b2⟩:=hS 1 (by omega)
  rw [if_pos k8]
  obtain ⟨u1,u2⟩:=ja hr.1 k8 a1 (hl k8)
  exact ⟨fT u1 _ b1,rf (by omega) (by omega)⟩
 rw [if_neg k8] at h5 ⊢
 by_cases k9:n.k=9
 ·rw [cC (by rw [k9];rfl),k9] at hw
  have hw:ts.length=3:=hw.symm
  obtain ⟨b1,b2⟩:=hS 1 (by omega)
  obtain ⟨c1,c2⟩:=hS 2 (by omega)
  rw [if_pos k9] at h5 ⊢
  split at h5
  ·rename_i hk
   rw [if_pos hk]
   simp only
   split
   ·exact ⟨b1,yU (by omega)⟩
   ·exact ⟨c1,yU (by omega)⟩
  ·exact absurd h5 (by show ¬ (4:Int)=5;decide)
 rw [if_neg k9] at h5 ⊢
 by_cases k10:n.k=10
 ·rw [cC (by rw [k10];rfl),k10] at hw
  have hw:ts.length=2:=hw.symm
  obtain ⟨a1,a2⟩:=hS 0 (by omega)
  rw [if_pos k10] at h5 ⊢
  obtain ⟨u1,u2⟩:=Ai hr.1 h5
  exact ⟨u1,yU (by omega)⟩
 rw [if_neg k10] at h5 ⊢
 by_cases k12:n.k=12
 ·rw [cC (by rw [k12];rfl),k12] at hw
  have hw:ts.length=1:=hw.symm
  obtain ⟨a1,a2⟩:=hS 0 (by omega)
  rw [if_pos k12] at h5 ⊢
  split at h5
  ·rename_i hk
   rw [if_pos hk]
   have hkl:(ts.getD 0 az).kids.length=(ts.getD 0 az).lab.l.length:=by
    rw [eP a1]
    unfold aA
    rw [hk.1]
    show 0+_=_
    rw [Nat.zero_add]
    rfl
   have hks:=fH (ik (t:=ts.getD 0 az) (j:=dy (ts.getD 0 az).lab.l n.name) (by omega))
   simp only
   exact ⟨fg a1 (by omega),yU (by omega)⟩
  ·exact absurd h5 (by show ¬ (4:Int)=5;decide)
 rw [if_neg k12] at h5 ⊢
 by_cases k14:n.k=14
 ·have hw:ts.length=1+n.l.length:=by
   rw [← hw]
   unfold aA
   rw [k14]
   rfl
  obtain ⟨a1,a2⟩:=hS 0 (by omega)
  rw [if_pos k14] at h5 ⊢
  split at h5
  ·rename_i hk
   rw [if_pos hk]
   have hkl:(ts.getD 0 az).kids.length=1:=by rw [eP a1,cC (by rw [hk.1];rfl),hk.1];rfl
   have hks:=fH (ik (t:=ts.getD 0 az) (j:=0) (by omega))
   obtain ⟨b1,b2⟩:=hS (dy n.l (ts.getD 0 az).lab.name+1) (by omega)
   exact ⟨fT (fg a1 (by omega)) _ b1,rf (by omega) (by omega)⟩
  ·exact absurd h5 (by show ¬ (4:Int)=5;decide)
 rw [if_neg k14] at h5
 exact absurd h5 (by show ¬ (4:Int)=5;decide)
theorem I5 {a:Nat}:2*(a*a)+1≤2*((a+1)*(a+1)):=by
 have e:(a+1)*(a+1)=a*a+a+(a+1):=by
  rw [Nat.add_mul,Nat.mul_add,Nat.mul_one,Nat.one_mul]
 omega
theorem Bu {a b:Nat} (ha:1≤a):2*(a*a)+b≤2*((a+b)*(a+b))∧a+2*(b*b)≤2*((a+b)*(a+b)):=by
 have e:(a+b)*(a+b)=a*a+a*b+(a*b+b*b):=by
  rw [Nat.add_mul,Nat.mul_add,Nat.mul_add,Nat.mul_comm b a]
 have h1:1*b≤a*b:=Nat.mul_le_mul_right _ ha
 have h2:a*1≤a*a:=Nat.mul_le_mul_left _ ha
 omega
mutual
theorem yI:∀ t:RT,t.good→t.lk→(stT t).1=5→(stT t).2.good∧(stT t).2.sz≤2*(t.sz*t.sz)
 | .mk n ts,h,hl,h5=>by
   rw [RT.lk] at hl
   obtain ⟨⟨hw,hc,hr⟩,hg⟩:=bk.1 h
   rw [stT] at h5 ⊢
   cases hs:mS n 0 ts with
   | none =>
     rw [hs] at h5
     exact vZ h hl.1 h5
   | some q =>
     rw [hs] at h5
     simp only at h5 ⊢
     obtain ⟨e1,e2⟩:=kS n 0 ts hg hl.2 q.1 q.2 hs
     by_cases hq:q.1=5
     ·rw [if_pos hq]
      obtain ⟨e3,e4⟩:=e2 hq
      refine ⟨bk.2 ⟨⟨by rw [hw,e1],hc,hr⟩,e3⟩,?_⟩
      simp only [er]
      exact Nat.le_trans (Nat.succ_le_succ e4) I5
     ·rw [if_neg hq] at h5
      exact absurd h5 hq
theorem kS (n:EN):∀ (k:Nat) (ts:List RT),(∀ t∈ts,t.good)→RT.lks ts→∀ h us,mS n k ts=some (h,us)→us.length=ts.length∧(h=5→(∀ u∈us,u.good)∧szs us≤2*(szs ts*szs ts))
 | _,[],_,_,h,us,e=>by rw [mS] at e;cases e
 | k,t::r,hg,hl,h,us,e=>by
   rw [RT.lks] at hl
   rw [mS] at e
   split at e
   ·have e:=Option.some.inj e
    obtain ⟨rfl,rfl⟩:=Prod.mk.inj e
    refine ⟨rfl,fun h5=>?_⟩
    obtain ⟨g1,g2⟩:=yI t (hg t List.mem_cons_self) hl.1 h5
    refine ⟨fun u hu=>?_,?_⟩
    ·rcases List.mem_cons.1 hu with rfl | hu
     ·exact g1
     ·exact hg u (List.mem_cons_of_mem _ hu)
    ·rw [bh,bh]
     exact Nat.le_trans (Nat.add_le_add_right g2 _) (Bu (dm t)).1
   ·obtain ⟨q,hq,e⟩:=Option.map_eq_some_iff.1 e
    obtain ⟨rfl,rfl⟩:=Prod.mk.inj e
    obtain ⟨e1,e2⟩:=kS n (k+1) r (fun u hu=>hg u (List.mem_cons_of_mem _ hu)) hl.2 q.1 q.2 hq
    refine ⟨by rw [List.length_cons,List.length_cons,e1],fun h5=>?_⟩
    obtain ⟨e3,e4⟩:=e2 h5
    refine ⟨fun u hu=>?_,?_⟩
    ·rcases List.mem_cons.1 hu with rfl | hu
     ·exact hg _ List.mem_cons_self
     ·exact e3 u hu
    ·rw [bh,bh]
     exact Nat.le_trans (Nat.add_le_add_left e4 _) (Bu (dm t)).2
end
end Go.Proofs.YtejpnabbmgpmaaaGreat

namespace Go.Proofs.YtejpnabbmgpmaaaGreat
open Go.Ab
def Cq:List TS:=[.sl (some 9) [.int .i64,.int .i64,.int .i64,.int .i64,.int .i64,.str,.str,.sl (some 3) [.str,.str,.int .i64],.int .i64]]
def RwN (x:D) (n:EN):Prop:=∃ F,x=.agg [i64 n.k,i64 n.a,i64 n.b,i64 n.c,i64 n.n,.str n.name,.str n.s,F,i64 n.pos]∧(F=.nils∧n.l=[]∨F=efD n.l)
def RwL:List D→List EN→Prop
 | [],[]=>True
 | x::xs,n::ns=>RwN x n∧RwL xs ns
 | _,_=>False
theorem RwL.len:∀ {xs:List D} {ns:List EN},RwL xs ns→xs.length=ns.length
 | [],[],_=>rfl
 | _::_,_::_,h=>by simp [RwL.len h.2]
 | [],_::_,h=>h.elim
 | _::_,[],h=>h.elim
theorem RwL.get:∀ {xs:List D} {ns:List EN},RwL xs ns→∀ (i:Nat) x n,xs[i]?=some x→ns[i]?=some n→RwN x n
 | [],_,_,i,x,n,h,_=>by simp at h
 | _::_,[],h,_,_,_,_,_=>h.elim
 | x::xs,n::ns,h,0,_,_,h1,h2=>by simp at h1 h2;subst h1;subst h2;exact h.1
 | x::xs,n::ns,h,i+1,y,m,h1,h2=>h.2.get i y m (by simpa using h1) (by simpa using h2)
theorem DB (n:EN):okW (some 9) (enD n):=⟨rfl,by simp [efD,D.scal]⟩
theorem JB {xs:List D} {ns:List EN} (h:RwL xs ns):Wk (.agg [.sl (some 9) xs]) (exD ns):=by
 refine Wk.agg rfl (by simp [D.scal]) fun i a b ha hb=>?_
 match i,ha,hb with
 | 0,ha,hb =>
   cases ha;cases hb
   refine Wk.sl (by simp [h.len]) (fun b hb=>by obtain ⟨n,_,rfl⟩:=List.mem_map.1 hb;exact DB n) fun i a b ha hb=>?_
   rw [List.getElem?_map,Option.map_eq_some_iff] at hb
   obtain ⟨n,hn,rfl⟩:=hb
   obtain ⟨F,rfl,hF⟩:=h.get i a n ha hn
   refine ⟨rfl,fun j c d hc hd=>?_⟩
   match j,hc,hd with
   | 0,hc,hd | 1,hc,hd | 2,hc,hd | 3,hc,hd | 4,hc,hd | 5,hc,hd | 6,hc,hd | 8,hc,hd=>cases hc;cases hd;exact .refl _
   | 7,hc,hd =>
     cases hc;cases hd
     rcases hF with ⟨rfl,hF⟩ | rfl
     ·rw [hF];exact .nils _
     ·exact .refl _
theorem mi:maxLen≤9223372036854775807:=by unfold maxLen;omega
theorem A4:∀ {xs:List D},(∀ x∈xs,okW (some 3) x∧oks [.str,.str,.int .i64] x.cells)→∃ l:List EF,xs=l.map fD∧∀ f∈l,f.nm.length≤maxLen∧f.var.length≤maxLen
 | [],_=>⟨[],rfl,by simp⟩
 | x::xs,h=>by
   obtain ⟨l,hl,hf⟩:=A4 fun y hy=>h y (List.mem_cons_of_mem _ hy)
   obtain ⟨h1,h2⟩:=h x List.mem_cons_self
   cases x with
   | agg cs =>
     have h2:oks [.str,.str,.int .i64] cs:=h2
     match cs,h2 with
     | [.str s,.str v,.int k n],h2 =>
       obtain ⟨g1,g2,g3,_⟩:=h2
       obtain rfl:k=.i64:=g3.1
       exact ⟨⟨s,v,n⟩::l,by rw [hl];rfl,fun f hf'=>by
        rcases List.mem_cons.1 hf' with rfl | hf'
        ·exact ⟨g1,g2⟩
        ·exact hf f hf'⟩
   | _=>simp [okW] at h1
def InN (n:EN):Prop:=n.name.length≤maxLen∧n.s.length≤maxLen∧n.l.length≤maxLen∧∀ f∈n.l,f.nm.length≤maxLen∧f.var.length≤maxLen
theorem JI {x:D} (h1:okW (some 9) x) (h2:oks [.int .i64,.int .i64,.int .i64,.int .i64,.int .i64,.str,.str,.sl (some 3) [.str,.str,.int .i64],.int .i64] x.cells):∃ n,RwN x n∧InN n:=by
 cases x with
 | agg cs =>
   have h2:oks [.int .i64,.int .i64,.int .i64,.int .i64,.int .i64,.str,.str,.sl (some 3) [.str,.str,.int .i64],.int .i64] cs:=h2
   match cs,h2 with
   | [.int k1 a,.int k2 b,.int k3 c,.int k4 d,.int k5 e,.str s,.str t,F,.int k6 p],h2 =>
     obtain ⟨g1,g2,g3,g4,g5,g6,g7,g8,g9,_⟩:=h2
     obtain rfl:k1=.i64:=g1.1
     obtain rfl:k2=.i64:=g2.1
     obtain rfl:k3=.i64:=g3.1
     obtain rfl:k4=.i64:=g4.1
     obtain rfl:k5=.i64:=g5.1
     obtain rfl:k6=.i64:=g9.1
     cases F with
     | nils=>exact ⟨⟨a,b,c,d,e,s,t,[],p⟩,⟨.nils,rfl,.inl ⟨rfl,rfl⟩⟩,g6,g7,by simp,by simp⟩
     | sl w xs =>
       obtain ⟨rfl,g10,g11⟩:=g8
       obtain ⟨l,rfl,hl⟩:=A4 g11
       exact ⟨⟨a,b,c,d,e,s,t,l,p⟩,⟨_,rfl,.inr rfl⟩,g6,g7,by simpa using g10,hl⟩
     | _=>exact g8.elim
 | _=>simp [okW] at h1
theorem CZ:∀ {xs:List D},(∀ x∈xs,okW (some 9) x∧oks [.int .i64,.int .i64,.int .i64,.int .i64,.int .i64,.str,.str,.sl (some 3) [.str,.str,.int .i64],.int .i64] x.cells)→∃ ns,RwL xs ns∧∀ n∈ns,InN n
 | [],_=>⟨[],trivial,by simp⟩
 | x::xs,h=>by
   obtain ⟨ns,h1,h2⟩:=CZ fun y hy=>h y (List.mem_cons_of_mem _ hy)
   obtain ⟨g1,g2⟩:=h x List.mem_cons_self
   obtain ⟨n,k1,k2⟩:=JI g1 g2
   exact ⟨n::ns,⟨k1,h1⟩,fun m hm=>by
    rcases List.mem_cons.1 hm with rfl | hm
    ·exact k2
    ·exact h2 m hm⟩
theorem Gu (ns:List EN):(lF ns).length≤700:=by
 unfold lF
 rw [List.length_map,List.length_take]
 omega
def InF (ns:List EN):Prop:=ns.length≤700∧∀ n∈ns,ff BIG n∧n.l.length≤60
theorem wx {ns:List EN} (h:∀ n∈ns,InN n):InF (lF ns):=by
 refine ⟨Gu ns,fun n hn=>?_⟩
 unfold lF at hn
 obtain ⟨m,hm,rfl⟩:=List.mem_map.1 hn
 obtain ⟨h1,h2,h3,h4⟩:=h m (List.mem_of_mem_take hm)
 have hx:=mi
 have hl:(uB m).l.length≤60:=by unfold uB;simp only [List.length_take];omega
 exact ⟨⟨by show m.name.length≤9223372036854775807;omega,by show m.s.length≤9223372036854775807;omega,by omega,fun f hf=>by
  have:=h4 f (List.mem_of_mem_take hf)
  exact ⟨by show f.nm.length≤9223372036854775807;omega,by show f.var.length≤9223372036854775807;omega⟩⟩,hl⟩
theorem xy (ns:List EN):lF (lF ns)=lF ns:=by
 unfold lF
 rw [List.take_of_length_le (by rw [List.length_map,List.length_take];omega),List.map_map]
 refine List.map_congr_left fun n _=>?_
 simp [uB,List.take_take]
theorem pE {G} {ns:List EN} (h:InF ns) (hf:lF ns=ns):HP Tryz.prog G 19 [exD ns] (fun r=>r=.d (exD ns)):=by
 have:=wJ (G:=G) ns (by have:=h.1;omega) (fun n hn=>by have:=(h.2 n hn).2;omega)
 rwa [hf] at this
end Go.Proofs.YtejpnabbmgpmaaaGreat

namespace Go.Ab
section
variable {P:Program} {cf:Cf} {Q:Exit→St→Prop} {s:St} {k:List It}
end
end Go.Ab

namespace Go.Ab
inductive Fz where
 | A (p:Name) (w:W) (xs:List D)
 | B (p:Name) (d:D)
def Fz.nm:Fz→Name
 | .A p _ _=>p
 | .B p _=>p
def St.fz (s:St):Fz→St
 | .A p w xs=>s.eH p w xs
 | .B p d=>s.frB p d
def Fz.ok (s:St):Fz→Prop
 | .A p w xs=>s.hp p=some (.arr w xs)
 | .B p d=>s.hp p=some (.box (d.cells.map .d))∧(d.cells.all D.scal)=true
def St.fzL (s:St):List Fz→St
 | []=>s
 | q::L=>(s.fz q).fzL L
def Am (s:St):List Fz→Prop
 | []=>True
 | q::L=>q.ok s∧Am (s.fz q) L
theorem EX (s:St):s.fzL []=s:=rfl
theorem Ka (s:St) (p:Name) (w:W) (xs:List D) (L:List Fz):s.fzL (.A p w xs::L)=(s.eH p w xs).fzL L:=rfl
theorem J7 (s:St) (p:Name) (d:D) (L:List Fz):s.fzL (.B p d::L)=(s.frB p d).fzL L:=rfl
theorem BQ (s:St):Am s []=True:=rfl
theorem IN (s:St) (p:Name) (w:W) (xs:List D) (L:List Fz):Am s (.A p w xs::L)=(s.hp p=some (.arr w xs)∧Am (s.eH p w xs) L):=rfl
theorem I7 (s:St) (p:Name) (d:D) (L:List Fz):Am s (.B p d::L)=((s.hp p=some (.box (d.cells.map .d))∧(d.cells.all D.scal)=true)∧Am (s.frB p d) L):=rfl
section
variable {P:Program} {cf:Cf} {Q:Exit→St→Prop} {s:St} {k:List It}
section
variable {ops:Array Oper} {K:St→Ns→Prop} {r:List Oper} {ns:Ns}
structure Alike (ns:List Name) (ts:List Nat) (s s':St):Prop where
 hp:∀ p∈ns,s'.hp p=s.hp p
 fr:∀ t∈ts,s'.fr t=s.fr t
end
end
attribute [go_sem] EX Ka J7 BQ IN I7 Fz.nm
end Go.Ab
namespace Go.Ab
variable {P:Program} {cf:Cf} {Φ:Exit→Act→World→Prop} {I:Base→List Deferred→Prop} {k:List It} {s:St}
def cutq (P:Program) (cf:Cf) (Φ:Exit→Act→World→Prop) (I:Base→List Deferred→Prop) (k:List It) {X:Type} (S:X→St) (e:Exit) (s:St):Prop :=
 match e with
 | .normal=>∃ x τ,Le cf.U τ s (S x)
 | e=>yq P cf Φ I k e s
theorem Da {X:Type} (S:X→St):cutq P cf Φ I k S .ret s=ARX cf Φ I .ret s:=rfl
theorem J1 {X:Type} (S:X→St) {c:Code} (h1:∀ E:Eng P cf (cutq P cf Φ I k S),E.run [.code c] s) (h2:∀ x,ARY P cf Φ I k (S x)):ARY P cf Φ I (.code c::k) s :=
 fun B hB ds β a w hds hI hs=>wpIn_mono (bf (veil h1) B hB ds β a w hds hs) fun e a' w' hq=>by
  obtain ⟨hd,s',β',hq,hs'⟩:=hq
  cases e with
  | normal =>
    obtain ⟨x,τ,hle⟩:=hq
    obtain ⟨β2,hs2,_⟩:=hs'.le (τ:=τ) (by rw [hB.2.1];exact hle)
    exact fm (s:=S x) (e:=.normal) hB hI hd (h2 x) hs2
  | ret=>exact fm (e:=.ret) hB hI hd hq hs'
  | exit i=>exact fm (e:=.exit i) hB hI hd hq hs'
  | goto l=>exact hq.elim
  | panic c=>exact hq.elim
  | outgrown=>exact hq.elim
theorem lW (fr:List (Nat × AV)) (hp:List (Name × Ob)) (u:List Nat) {c:Code} (h1:∀ E:Eng P cf (cutq P cf Φ I k fun _:Unit=>mk fr hp u),E.run [.code c] s) (h2:ARY P cf Φ I k (mk fr hp u)):ARY P cf Φ I (.code c::k) s:=J1 _ h1 fun _=>h2
theorem dM {fr:List (Nat × AV)} {hp:List (Name × Ob)} {u:List Nat} (τ:Name→Name) (h:LeL cf.U τ s fr hp u):cutq P cf Φ I k (fun _:Unit=>mk fr hp u) .normal s:=⟨(),τ,h.le⟩
attribute [go_sem] Da
end Go.Ab

namespace Go.Ab
section
variable {P:Program} {cf:Cf} {ops:Array Oper} {K:St→Ns→Prop} {r:List Oper} {s:St} {ns:Ns}
end
end Go.Ab

namespace Go.Proofs.YtejpnabbmgpmaaaGreat
open Go.Ab
theorem jZ {ns:List EN} (ht:bt ns):∀ n∈ns,n.l.length≤900000:=fun n hn=>by have:=ht.l n hn;omega
theorem iV {ns:List EN} (ht:bt ns):∀ n∈ns,ff BIG n:=fun n hn=>by
 obtain ⟨i,hi,rfl⟩:=List.mem_iff_getElem.1 hn
 have:=ht.right i hi
 rw [ba hi] at this
 exact nt this
theorem Cv {G} {ns:List EN} (ht:bt ns) {i:Nat} (hi:i<ns.length):HP Tryz.prog G 57 [exD ns,i64 (i:Int)] (fun q=>q=.d (exD (sbE ns i))):=by
 have hf:=ht.few
 have hl:=m8 ht hi
 have:=H4 (G:=G) ns i hi (by omega) (jZ ht) ht.kids (C5 ht hi) (by show (bb ns i).length≤_;omega)
 have e:lJ ns (bg ns ns.length i) (bg ns ns.length i).length=sbE ns i:=by unfold lJ sbE bb;rw [List.take_length]
 rwa [e] at this
def kD (ns:List EN):List EN:=sbE ns (ns.length-1)
theorem x7 {G} {ns:List EN} (ht:bt ns) (hm:bL ns=0):HP Tryz.prog G 16 [exD ns] (fun r=>r=.tup [.d (exD (kD ns)),.d (i64 0)]):=by
 have hf:=ht.few
 have hp:=ht.pos
 have c1:=lL (G:=G) ns (iV ht) (by omega)
 rw [hm] at c1
 have c2:=Cv (G:=G) ht (i:=ns.length-1) (by omega)
 rw [show ((ns.length-1:Nat):Int)=(ns.length:Int)-1 by omega] at c2
 unfold kD
 generalize sbE ns (ns.length-1)=X at c2 ⊢
 unfold exD at *
 refine au Tryz.func16 rfl (by decide +kernel) (by simp [Tryz.ntmps16]) (veil fun E=>?_)
 simp only [go_sem]
 refine ab E (c1) rfl rfl (by simp) ?_
 rintro _ rfl
 simp only [go_sem]
 rw [ak (n:=(ns.length:Int)-1) ⟨by omega,by omega⟩]
 refine ab E (c2) rfl rfl (by simp) ?_
 rintro _ rfl
 simp only [go_sem]
 refine ⟨[],?_⟩
 simp only [go_sem]
theorem y7 {G} {ns:List EN} (hm:bL ns≠0) (hs:∀ n∈ns,ff BIG n) (hN:ns.length≤1000000):HP Tryz.prog G 16 [exD ns] (fun r=>r=.tup [.d (.agg [.nils]),.d (i64 (bL ns))]):=by
 have c1:=lL (G:=G) ns hs hN
 generalize bL ns=m at c1 hm ⊢
 unfold exD at *
 refine au Tryz.func16 rfl (by decide +kernel) (by simp [Tryz.ntmps16]) (veil fun E=>?_)
 simp only [go_sem]
 refine ab E (c1) rfl rfl (by simp) ?_
 rintro _ rfl
 simp only [go_sem]
 refine ai E (fun _=>?_) (fun h=>absurd (by simpa using h) hm)<;>simp only [go_sem]
 refine ⟨[],?_⟩
 simp only [go_sem]
theorem ET {G} {ns:List EN} (ht:bt ns) (hm:bL ns=0) {i:Nat} (hi:i<ns.length):HP Tryz.prog G 181 [exD ns,i64 (i:Int)] (fun r=>r=.tup [.d (exD (sbE ns i)),.d (i64 0)]):=by
 have hf:=ht.few
 have c1:=lL (G:=G) ns (iV ht) (by omega)
 rw [hm] at c1
 have c2:=Cv (G:=G) ht hi
 generalize sbE ns i=X at c2 ⊢
 unfold exD at *
 refine au Tryz.func181 rfl (by decide +kernel) (by simp [Tryz.ntmps181]) (veil fun E=>?_)
 simp only [go_sem]
 refine ab E (c1) rfl rfl (by simp) ?_
 rintro _ rfl
 simp only [go_sem]
 rw [decide_eq_false (show ¬ ((i:Int)<0) by omega)]
 simp only [go_sem]
 rw [decide_eq_false (show ¬ ((ns.length:Int)≤(i:Int)) by omega)]
 simp only [go_sem]
 refine ab E (c2) rfl rfl (by simp) ?_
 rintro _ rfl
 simp only [go_sem]
 refine ⟨[],?_⟩
 simp only [go_sem]
def spO (ns:List EN) (h:Int):List (Name × Ob):=[([100],.box [.d (.sl (some 9) (ns.map enD)),.d (i64 h)])]
theorem cH {G} {ns:List EN} (ht:bt ns) (hm:bL ns=0) (h:Int) {i:Nat} (hi:i<ns.length):HCall Tryz.prog G 124 [.at [100] 0,.d (i64 (i:Int))] (spO ns h) [100] (fun r hp'=>r=.d (exD (sbE ns i))∧hp'=spO ns h):=by
 have c1:=ET (G:=G) ht hm hi
 generalize sbE ns i=X at c1 ⊢
 unfold exD spO at *
 refine aq Tryz.func124 rfl (by decide +kernel) (by simp [Tryz.ntmps124]) (veil fun E=>?_)
 simp only [go_sem]
 refine ab E (c1) rfl rfl (by simp) ?_
 rintro _ rfl
 simp only [go_sem]
 refine ⟨_,_,[100],id,⟨rfl,rfl⟩,?_⟩
 simp only [go_sem]
theorem FQ {ns:List EN} (hk:∀ i,i<ns.length→(ag (ndE ns i)).all (inB i)=true) {i:Nat} (hi:i<ns.length):(trE ns i).kids=(ag (ndE ns i)).map fun k=>trE ns k.toNat:=by rw [mB hk hi];rfl
theorem iP {ns:List EN} {i:Nat} (hi:i<ns.length):(trE ns i).lab=can (ndE ns i):=Bh ns ns.length i (by omega)
theorem DQ {ns:List EN} (hk:∀ i,i<ns.length→(ag (ndE ns i)).all (inB i)=true) {i:Nat} (hi:i<ns.length):b7 (trE ns i)=if (ndE ns i).k=11∨(ndE ns i).k=13 then (ag (ndE ns i)).all (fun k=>b7 (trE ns k.toNat)) else decide ((ndE ns i).k=1) || decide ((ndE ns i).k=2) || decide ((ndE ns i).k=3) || decide ((ndE ns i).k=5):=by
 rw [mB hk hi,b7,ck,pA,List.all_map]
 rfl
theorem G7 {G} {ns:List EN} {f:EF} {b:Bool} (h:HP Tryz.prog G 121 [exD ns,i64 f.to] (fun r=>r=.d (.bool b))):HP Tryz.prog G 180 [fD f,.ptr (exD ns)] (fun r=>r=.d (.bool (!b))):=by
 unfold exD fD at *
 refine al Tryz.func180 rfl (by decide +kernel) (by simp [Tryz.ntmps180]) (veil fun E=>?_)
 simp only [go_sem]
 refine ab E h rfl rfl (by simp) ?_
 rintro _ rfl
 simp only [go_sem]
theorem xY {α:Type} {p:α→Bool}:∀ l:List α,l.any (fun x=>!p x)=!l.all p
 | []=>rfl
 | x::r=>by rw [List.any_cons,List.all_cons,xY r];simp
theorem yQ {G} (ns:List EN) (hN:ns.length≤1000000) (hs:∀ n∈ns,n.l.length≤900000) (hk:∀ i,i<ns.length→(ag (ndE ns i)).all (inB i)=true):∀ (m i:Nat),i<m→i<ns.length→HP Tryz.prog G 121 [exD ns,i64 (i:Int)] (fun r=>r=.d (.bool (b7 (trE ns i))))
 | 0,_,h,_=>absurd h (Nat.not_lt_zero _)
 | m+1,i,him,hi=>by
   have ih:=yQ (G:=G) ns hN hs hk m
   have hg:=aN hi
   have hsi:=hs _ (by rw [ba hi];exact List.getElem_mem hi:ndE ns i∈ns)
   have hkn:=ax hk hi
   rw [DQ hk hi]
   obtain ⟨n,hne⟩:∃ n,n=ndE ns i:=⟨_,rfl⟩
   rw [← hne] at hg hsi hkn ⊢
   generalize hR:(if n.k=11∨n.k=13 then (ag n).all (fun k=>b7 (trE ns k.toNat)) else decide (n.k=1) || decide (n.k=2) || decide (n.k=3) || decide (n.k=5))=R
   unfold exD
   refine au Tryz.func121 rfl (by decide +kernel) (by simp [Tryz.ntmps121]) (veil fun E=>?_)
   simp only [go_sem]
   refine ⟨⟨by omega,by omega⟩,?_⟩
   rw [hg]
   simp only [go_sem]
   refine ai E (fun k1=>?_) (fun k1=>?_)<;>simp only [go_sem]
   ·rw [decide_eq_true k1]
    simp only [go_sem]
    rw [← hR]
    simp only [k1]
    exact ⟨[],trivial,rfl,rfl⟩
   refine ai E (fun k2=>?_) (fun k2=>?_)<;>simp only [go_sem]
   ·rw [decide_eq_true k2]
    simp only [go_sem]
    rw [← hR]
    simp only [k2]
    exact ⟨[],trivial,rfl,rfl⟩
   refine ai E (fun k3=>?_) (fun k3=>?_)<;>simp only [go_sem]
   ·rw [decide_eq_true k3]
    simp only [go_sem]
    rw [← hR]
    simp only [k3]
    exact ⟨[],trivial,rfl,rfl⟩
   by_cases k5:n.k=5
   ·rw [decide_eq_true k5]
    simp only [go_sem]
    rw [← hR]
    simp only [k5]
    exact ⟨[],trivial,rfl,rfl⟩
   rw [decide_eq_false k5]
   simp only [go_sem]
   refine ai E (fun k11=>?_) (fun k11=>?_)<;>simp only [go_sem]
   ·have hke:ag n=n.l.map (·.to):=by simp [ag,k11,aI,aG]
    have hc:=zm (G:=G) n.l (fun f=>!b7 (trE ns f.to.toNat)) 180 [.ptr (exD ns)] (by omega) (fun f hf=>by
     have hm:f.to∈ag n:=by rw [hke];exact List.mem_map_of_mem hf
     obtain ⟨h1,h2⟩:=hkn _ hm
     have:=ih f.to.toNat (by omega) (by omega)
     rw [Int.toNat_of_nonneg h1] at this
     exact G7 this)
    rw [if_pos (.inl k11)] at hR
    rw [xY,show n.l.all (fun f=>b7 (trE ns f.to.toNat))=(ag n).all (fun k=>b7 (trE ns k.toNat)) by rw [hke,List.all_map];rfl,hR] at hc
    unfold exD at hc
    refine qf E [2] (.agg [.sl (some 9) (ns.map enD)]) rfl rfl ?_
    simp only [go_sem]
    refine ab E (hc) rfl rfl (by simp) ?_
    rintro _ rfl
    simp only [go_sem]
    refine ⟨[],?_⟩
    simp only [go_sem]
   refine ai E (fun k13=>?_) (fun k13=>?_)<;>simp only [go_sem]
   ·have hke:ag n=[n.a]:=by simp [ag,k13,aI,aG]
    obtain ⟨h1,h2⟩:=hkn n.a (by rw [hke];exact List.mem_cons_self)
    have hc:=ih n.a.toNat (by omega) (by omega)
    rw [Int.toNat_of_nonneg h1] at hc
    rw [if_pos (.inr k13),hke] at hR
    simp only [List.all_cons,List.all_nil,Bool.and_true] at hR
    rw [hR] at hc
    unfold exD at hc
    refine ab E (hc) rfl rfl (by simp) ?_
    rintro _ rfl
    simp only [go_sem]
    refine ⟨[],?_⟩
    simp only [go_sem]
   ·rw [if_neg (by omega),decide_eq_false k1,decide_eq_false k2,decide_eq_false k3,decide_eq_false k5] at hR
    rw [← hR]
    refine ⟨[],?_⟩
    simp only [go_sem]
end Go.Proofs.YtejpnabbmgpmaaaGreat

namespace Go.Proofs.YtejpnabbmgpmaaaGreat
open Go.Ab
theorem Dm {G} {ns:List EN} (ht:bt ns) (hm:bL ns=0):HP Tryz.prog G 74 [exD ns] (fun r=>r=.d (.bool (b7 (trE ns (ns.length-1))))):=by
 have hf:=ht.few
 have hp:=ht.pos
 have c1:=lL (G:=G) ns (iV ht) (by omega)
 rw [hm] at c1
 have c2:=yQ (G:=G) ns (by omega) (jZ ht) (aJ ht) ns.length (ns.length-1) (by omega) (by omega)
 rw [show ((ns.length-1:Nat):Int)=(ns.length:Int)-1 by omega] at c2
 generalize b7 (trE ns (ns.length-1))=b at c2 ⊢
 unfold exD at *
 refine al Tryz.func74 rfl (by decide +kernel) (by simp [Tryz.ntmps74]) (veil fun E=>?_)
 simp only [go_sem]
 refine ab E (c1) rfl rfl (by simp) ?_
 rintro _ rfl
 simp only [go_sem]
 rw [ak (n:=(ns.length:Int)-1) ⟨by omega,by omega⟩]
 refine ab E (c2) rfl rfl (by simp) ?_
 rintro _ rfl
 simp only [go_sem]
theorem vL {ns:List EN} (ht:bt ns) {i:Nat} (hi:i<ns.length):trE (sbE ns i) ((sbE ns i).length-1)=trE ns i:=by
 have:=eQ (yK (aJ ht) hi)
 rwa [cT ht hi] at this
theorem GK {G} {ns:List EN} (ht:bt ns) (hm:bL ns=0) (h:Int) {i:Nat} (hi:i<ns.length):HCall Tryz.prog G 123 [.at [100] 0,.d (i64 (i:Int))] (spO ns h) [100] (fun r hp'=>r=.d (.bool (b7 (trE ns i)))∧hp'=spO ns h):=by
 have c1:=cH (G:=G) ht hm h hi
 have hsm:=wA ht hi
 have c2:=Dm (G:=G) (JR hsm) hsm
 rw [vL ht hi] at c2
 generalize sbE ns i=X at c1 c2
 generalize b7 (trE ns i)=b at c2 ⊢
 unfold exD spO at *
 refine aq Tryz.func123 rfl (by decide +kernel) (by simp [Tryz.ntmps123]) (veil fun E=>?_)
 simp only [go_sem]
 refine ae E _ _ _ c1 rfl rfl ⟨by simp only [go_sem],by first | (rw [aa];decide) | (simp only [go_sem]<;>(try rw [aa])<;>decide)⟩ (by simp only [go_sem]) (by simp only [go_sem]) (by simp only [go_sem]) ?_
 rintro _ _ ⟨rfl,rfl⟩
 refine ⟨by simp only [go_sem];try omega,?_⟩
 simp only [go_sem]
 refine ab E (c2) rfl rfl (by simp) ?_
 rintro _ rfl
 simp only [go_sem]
 refine ⟨_,_,[100],id,⟨rfl,rfl⟩,?_⟩
 simp only [go_sem]
theorem xC {G} (n:EN) (hn:n.l=[]):HP Tryz.prog G 240 [ndN n] (fun r=>r=.d (exD (bp n))):=by
 have c1:=Hv (G:=G) n hn
 generalize bp n=X at c1 ⊢
 unfold ndN exD at *
 refine au Tryz.func240 rfl (by decide +kernel) (by simp [Tryz.ntmps240]) (veil fun E=>?_)
 simp only [go_sem]
 refine ab E (c1) rfl rfl (by simp) ?_
 rintro _ rfl
 simp only [go_sem]
 refine ⟨[],?_⟩
 simp only [go_sem]
theorem gS {G} (ns:List EN) (h0 h:Int):HCall Tryz.prog G 189 [.at [100] 0,.d (i64 h)] (spO ns h0) [100] (fun r hp'=>r=.d (.agg [.nils])∧hp'=spO ns h):=by
 unfold spO
 refine aq Tryz.func189 rfl (by decide +kernel) (by simp [Tryz.ntmps189]) (veil fun E=>?_)
 simp only [go_sem]
 refine ⟨_,_,[100],id,⟨rfl,rfl⟩,?_⟩
 simp only [go_sem]
theorem Gf {G} (n:EN) (k:Nat) (x:List UInt8) (_hl:n.l.length≤900000) (hk:n.k=14→k<n.l.length+1) (hk2:k≤1000000):HP Tryz.prog G 239 [enD n,i64 (k:Int),.str x] (fun r=>r=.d (.bool (cW n k x))):=by
 generalize hR:cW n k x=R
 unfold cW at hR
 unfold enD efD
 refine al Tryz.func239 rfl (by decide +kernel) (by simp [Tryz.ntmps239]) (veil fun E=>?_)
 simp only [go_sem]
 refine ai E (fun k5=>?_) (fun k5=>?_)<;>simp only [go_sem]
 ·rw [decide_eq_true k5]
  simp only [go_sem]
  rw [← hR,if_pos (.inl k5)]
 by_cases k8:n.k=8
 ·rw [decide_eq_true k8]
  simp only [go_sem]
  rw [← hR,if_pos (.inr k8)]
 rw [decide_eq_false k8]
 simp only [go_sem]
 rw [if_neg (by omega)] at hR
 refine ai E (fun k7=>?_) (fun k7=>?_)<;>simp only [go_sem]
 ·rw [if_pos k7] at hR
  refine bR E (fun h1=>?_) (fun h1=>?_)<;>simp only [go_sem]
  ·rw [← hR,h1,Bool.true_and]
   have:=xd k 1
   rw [← this]
   rfl
  ·rw [← hR,h1,Bool.false_and]
 rw [if_neg k7] at hR
 refine ai E (fun k14=>?_) (fun k14=>?_)<;>simp only [go_sem]
 ·rw [if_pos k14] at hR
  have:=hk k14
  refine aF E (fun h1=>?_) (fun h1=>?_)<;>simp only [go_sem]
  ·rw [ak ⟨by omega,by omega⟩]
   refine ⟨⟨by omega,by omega⟩,?_⟩
   rw [show ((k:Int)-1).toNat=k-1 by omega,cR (by omega)]
   simp only [go_sem]
   rw [← hR,decide_eq_true (show 0<k by omega),Bool.true_and]
  ·rw [← hR,decide_eq_false (show ¬ 0<k by omega),Bool.false_and]
 ·rw [if_neg k14] at hR
  rw [← hR]
def dS (n:EN):List Int:=if n.k=6∨n.k=10∨n.k=11 then ag n else if n.k=7∨n.k=9∨n.k=12∨n.k=13∨n.k=14 then [n.a] else []
theorem FW {G} (n:EN) (hl:n.l.length≤900000):HP Tryz.prog G 122 [enD n] (fun r=>r=.d (.sl none ((dS n).map i64))):=by
 refine HP.wkr (Q:=fun r=>r=.d (.sl none ((dS n).map i64))∨(r=.d .nils∧dS n=[])) ?_ (fun r hr=>?_)
 ·have hkc:=eg (G:=G) n (by omega)
  generalize hR:dS n=R
  unfold dS at hR
  unfold enD efD at hkc ⊢
  refine au Tryz.func122 rfl (by decide +kernel) (by simp [Tryz.ntmps122]) (veil fun E=>?_)
  simp only [go_sem]
  refine ai E (fun k6=>?_) (fun k6=>?_)<;>simp only [go_sem]
  ·rw [if_pos (.inl k6)] at hR
   rw [decide_eq_true k6]
   simp only [go_sem]
   refine ae E _ [] [] hkc rfl rfl ⟨by simp only [go_sem],by rw [aa];decide⟩ rfl (by simp only [go_sem]) (by simp only [go_sem]) ?_
   rintro _ _ ⟨rfl,rfl⟩
   simp only [go_sem]
   rw [← hR]
   refine ⟨[([10,0],none,(ag n).map i64)],?_⟩
   simp only [go_sem]
   exact .inl trivial
  refine ai E (fun k10=>?_) (fun k10=>?_)<;>simp only [go_sem]
  ·rw [if_pos (.inr (.inl k10))] at hR
   rw [decide_eq_true k10]
   simp only [go_sem]
   refine ae E _ [] [] hkc rfl rfl ⟨by simp only [go_sem],by rw [aa];decide⟩ rfl (by simp only [go_sem]) (by simp only [go_sem]) ?_
   rintro _ _ ⟨rfl,rfl⟩
   simp only [go_sem]
   rw [← hR]
   refine ⟨[([10,0],none,(ag n).map i64)],?_⟩
   simp only [go_sem]
   exact .inl trivial
  by_cases k11:n.k=11
  ·rw [if_pos (.inr (.inr k11))] at hR
   rw [decide_eq_true k11]
   simp only [go_sem]
   refine ae E _ [] [] hkc rfl rfl ⟨by simp only [go_sem],by rw [aa];decide⟩ rfl (by simp only [go_sem]) (by simp only [go_sem]) ?_
   rintro _ _ ⟨rfl,rfl⟩
   simp only [go_sem]
   rw [← hR]
   refine ⟨[([10,0],none,(ag n).map i64)],?_⟩
   simp only [go_sem]
   exact .inl trivial
  rw [decide_eq_false k11]
  rw [if_neg (by omega)] at hR
  simp only [go_sem]
  refine ai E (fun k7=>?_) (fun k7=>?_)<;>simp only [go_sem]
  ·rw [if_pos (.inl k7)] at hR
   rw [decide_eq_true k7]
   simp only [go_sem]
   rw [← hR]
   refine ⟨[([19],none,[i64 n.a])],?_⟩
   simp only [go_sem]
  refine ai E (fun k9=>?_) (fun k9=>?_)<;>simp only [go_sem]
  ·rw [if_pos (.inr (.inl k9))] at hR
   rw [decide_eq_true k9]
   simp only [go_sem]
   rw [← hR]
   refine ⟨[([19],none,[i64 n.a])],?_⟩
   simp only [go_sem]
  refine ai E (fun k12=>?_) (fun k12=>?_)<;>simp only [go_sem]
  ·rw [if_pos (.inr (.inr (.inl k12)))] at hR
   rw [decide_eq_true k12]
   simp only [go_sem]
   rw [← hR]
   refine ⟨[([19],none,[i64 n.a])],?_⟩
   simp only [go_sem]
  refine ai E (fun k13=>?_) (fun k13=>?_)<;>simp only [go_sem]
  ·rw [if_pos (.inr (.inr (.inr (.inl k13))))] at hR
   rw [decide_eq_true k13]
   simp only [go_sem]
   rw [← hR]
   refine ⟨[([19],none,[i64 n.a])],?_⟩
   simp only [go_sem]
  by_cases k14:n.k=14
  ·rw [if_pos (.inr (.inr (.inr (.inr k14))))] at hR
   rw [decide_eq_true k14]
   simp only [go_sem]
   rw [← hR]
   refine ⟨[([19],none,[i64 n.a])],?_⟩
   simp only [go_sem]
  rw [decide_eq_false k14]
  rw [if_neg (by omega)] at hR
  simp only [go_sem]
  rw [← hR]
  refine ⟨[],?_⟩
  simp only [go_sem]
  exact .inr trivial
 ·rcases hr with hr | ⟨hr,he⟩
  ·exact ⟨_,_,hr,.refl _,rfl⟩
  ·exact ⟨_,_,hr,.nils none,by rw [he];rfl⟩
end Go.Proofs.YtejpnabbmgpmaaaGreat

namespace Go.Proofs.YtejpnabbmgpmaaaGreat
open Go.Ab
def pO (es:List EN) (x:List UInt8) (vs:List EN):List (Name × Ob):=[([101],.box [.d (.sl (some 9) (es.map enD))]),([102],.box [.d (.str x)]),([103],.box [.d (.sl (some 9) (vs.map enD))]),([104],.box [.clo 238 [.at [101] 0,.at [102] 0,.at [103] 0,.at [104] 0]])]
def wkT (x:List UInt8) (v:RT) (hid:Bool) (t:RT):RT:=if hid then t else bW x v t
theorem o4 (x:List UInt8) (v:RT) (n:EN):∀ (ts:List RT) (k q:Nat),q<ts.length→(eC x v n k ts).getD q az=wkT x v (cW n (k+q) x) (ts.getD q az)
 | [],_,_,h=>absurd h (Nat.not_lt_zero _)
 | t::r,k,0,_=>by rw [eC];unfold wkT;simp
 | t::r,k,q+1,h=>by
   have:=o4 x v n r (k+1) q (by simpa using h)
   rw [eC]
   rw [show k+(q+1)=k+1+q by omega]
   simpa using this
theorem rU {n:EN} {j:Nat} (hp:aG n.k=true):(fdE (can n).l j).var=(fdE n.l j).var:=by
 have hl:(can n).l=aV (List.replicate (aA n) 0) (aI n.k) n.l 0:=by
  show (if aG n.k then aV (List.replicate (aA n) 0) (aI n.k) n.l 0 else [])=_
  rw [if_pos hp]
 have:=gw (·.var) (fun _ _=>rfl) (List.replicate (aA n) 0) (aI n.k) n.l 0
 rw [← hl] at this
 unfold fdE
 have h2:=congrArg (fun l=>l.getD j []) this
 simp only [List.getD_eq_getElem?_getD,List.getElem?_map] at h2 ⊢
 cases h3:(can n).l[j]?<;>cases h4:n.l[j]?<;>simp [h3,h4] at h2 ⊢<;>exact h2
theorem pD (n:EN) (k:Nat) (x:List UInt8):cW (can n) k x=cW n k x:=by
 unfold cW
 rw [ck,iZ]
 by_cases h:n.k=14
 ·rw [rU (by rw [h];rfl)]
 ·simp [h]
def w4 (x:List UInt8) (v:RT) (hid:Bool) (n:EN) (ts:List RT):List RT:=if hid then ts else eC x v n 0 ts
theorem D8 {x:List UInt8} {v:RT} {hid:Bool} {n:EN} {ts:List RT} {q:Nat} (h:q<ts.length):(w4 x v hid n ts).getD q az=wkT x v (hid || cW n q x) (ts.getD q az):=by
 unfold w4
 cases hid
 ·rw [if_neg (by decide),o4 x v n ts 0 q h,Nat.zero_add]
  rfl
 ·rw [if_pos rfl]
  rfl
theorem B9 (x:List UInt8) (v:RT) (hid:Bool) (n:EN) (ts:List RT):(w4 x v hid n ts).length=ts.length:=by
 unfold w4
 split
 ·rfl
 ·exact jJ x v n 0 ts
theorem Di {x:List UInt8} {v:RT} {hid:Bool} {n:EN} {ts:List RT} (h:¬ (n.k=4∧n.name=x∧hid=false)):wkT x v hid (.mk n ts)=.mk n (w4 x v hid n ts):=by
 unfold wkT w4
 cases hid
 ·rw [if_neg (by decide),if_neg (by decide),bW,if_neg]
  rintro ⟨a,b⟩
  exact h ⟨a,b,rfl⟩
 ·rfl
theorem JU {x:List UInt8} {v t:RT} {hid:Bool}:(wkT x v hid t).sz≤t.sz*v.sz:=by
 unfold wkT
 split
 ·have:=Nat.mul_le_mul_left t.sz (dm v);omega
 ·exact wT t
theorem Gz {x:List UInt8} {v t:RT} {hid:Bool} (hv:v.good) (ht:t.good):(wkT x v hid t).good:=by
 unfold wkT
 split
 ·exact ht
 ·exact fT hv t ht
theorem Dw {G} {n:EN} {ts:List RT} (hn:n.l.length≤900000) (hw:aA n=ts.length) (hg:∀ t∈ts,t.good) (hS:szs ts≤1000000) (hL:ts.length≤1000000) :
  HP Tryz.prog G 86 [enD n,.sl (some 1) (ts.map fun t=>exD t.enc)] (fun r=>r=.d (exD (RT.mk (can n) ts).enc)):=by
 have:=nY (G:=G) n (RT.encs ts) (by omega) (by rw [gD];exact hL) (by rw [jM];exact hS) (fun l hl m hm=>by
  rw [bu] at hl
  obtain ⟨t,ht,rfl⟩:=List.mem_map.1 hl
  exact (mg t (hg t ht).ok).kids.2 m hm) (fun l hl m hm=>by
  rw [bu] at hl
  obtain ⟨t,ht,rfl⟩:=List.mem_map.1 hl
  have:=fy (bY t (hg t ht).rt m hm).1
  omega)
 rw [bu,List.map_map] at this
 rw [RT.enc,bu,gj (by rw [List.length_map,hw];exact Nat.le_refl _)]
 exact this
theorem qH {ts:List RT} {q:Nat} (h:q<ts.length):ts.take (q+1)=ts.take q++[ts.getD q az]:=by
 rw [List.take_succ_eq_append_getElem h]
 simp [h]
set_option maxHeartbeats 1000000 in
theorem zD {G} {es:List EN} (ht:bt es) (x:List UInt8) {v:RT} (hv:v.good) (hr:∀ n∈es,inR n.n) (hS:es.length*v.sz≤900000) :
  ∀ (m i:Nat) (hid:Bool),i<m→i<es.length→HCall Tryz.prog G 238 [.d (i64 (i:Int)),.d (.bool hid),.at [101] 0,.at [102] 0,.at [103] 0,.at [104] 0] (pO es x v.enc) [101,102,103,104] (fun r hp'=>r=.d (exD (wkT x v hid (trE es i)).enc)∧hp'=pO es x v.enc)
 | 0,_,_,h,_=>absurd h (Nat.not_lt_zero _)
 | m+1,i,hid,him,hi=>by
   have ih:=zD (G:=G) ht x hv hr hS m
   have hk:=aJ ht
   have hg:=aN hi
   have hsi:=jZ ht _ (by rw [ba hi];exact List.getElem_mem hi:ndE es i∈es)
   have hkn:=ax hk hi
   have htr:=mB hk hi
   have hgd:=dW ht hr hi
   have hsz:(trE es i).sz≤es.length:=by
    show (trE es i).enc.length≤_
    rw [cT ht hi,gK]
    exact m8 ht hi
   generalize hR:(wkT x v hid (trE es i)).enc=R
   obtain ⟨n,hne⟩:∃ n,n=ndE es i:=⟨_,rfl⟩
   rw [← hne] at hg hsi hkn htr
   obtain ⟨K,hK⟩:∃ K,K=ag n:=⟨_,rfl⟩
   have hKw:K.length=aA n:=by rw [hK,aM]
   have hKl:K.length≤900003:=by rw [hKw];unfold aA;have:=bn n.k;split<;>omega
   have hkc:=eg (G:=G) n (by omega)
   rw [← hK] at hkc hkn htr
   obtain ⟨ts,hts⟩:∃ ts,ts=K.map fun k=>trE es k.toNat:=⟨_,rfl⟩
   rw [← hts] at htr
   have htl:ts.length=K.length:=by rw [hts,List.length_map]
   rw [htr] at hR hgd hsz
   have htg:=(bk.1 hgd).2
   unfold pO at ih ⊢
   by_cases hy:n.k=4∧n.name=x∧hid=false
   ·obtain ⟨k4,hnm,rfl⟩:=hy
    have hRv:R=v.enc:=by
     rw [← hR]
     unfold wkT
     rw [if_neg (by decide),bW,if_pos (show (can n).k=4∧(can n).name=x from ⟨k4,hnm⟩)]
    refine aq Tryz.func238 rfl (by decide +kernel) (by simp [Tryz.ntmps238]) (veil fun E=>?_)
    simp only [go_sem]
    refine ⟨⟨by omega,by omega⟩,?_⟩
    rw [hg]
    simp only [go_sem]
    rw [decide_eq_true k4]
    simp only [go_sem]
    rw [show (n.name == x)=true by simp [hnm]]
    simp only [go_sem]
    rw [hRv]
    refine ⟨_,_,[101,102,103,104],id,⟨rfl,rfl⟩,?_⟩
    unfold exD
    simp only [go_sem]
   rw [Di (n:=can n) hy] at hR
   refine ir Tryz.func238 rfl (by decide +kernel) (by simp [Tryz.ntmps238]) fun B0 hB0=>?_
   refine aC (an fun E=>?_)
   simp only [go_sem]
   refine aC (an fun E=>?_)
   simp only [go_sem]
   refine ⟨⟨by omega,by omega⟩,?_⟩
   rw [hg]
   simp only [go_sem]
   refine aC (lW [(0,.d (i64 i)),(1,.d (.bool hid)),(2,.at [101] 0),(3,.at [102] 0),(4,.at [103] 0),(5,.at [104] 0),(8,.at [8] 0),(9,.at [9] 0)]
    [([101],.box [.d (.sl (some 9) (es.map enD))]),([102],.box [.d (.str x)]),([103],.box [.d (.sl (some 9) (v.enc.map enD))]),([104],.box [.clo 238 [.at [101] 0,.at [102] 0,.at [103] 0,.at [104] 0]]),([8],.box [.d .nils]),([9],.box [.d (i64 n.k),.d (i64 n.a),.d (i64 n.b),.d (i64 n.c),.d (i64 n.n),.d (.str n.name),.d (.str n.s),.d (.sl (some 3) (n.l.map fD)),.d (i64 n.pos)])] [8,9,101,102,103,104] (fun E=>?_) ?_)
   ·simp only [go_sem]
    refine aF E (fun k4=>?_) (fun k4=>?_)<;>simp only [go_sem]
    ·refine bR E (fun h1=>?_) (fun h1=>?_)<;>simp only [go_sem]
     ·cases hid with
      | false=>exact absurd ⟨k4,by simpa using h1,rfl⟩ hy
      | true =>
        simp only [go_sem]
        refine dM id ?_
        simp only [go_sem]
        all_goals first | rfl | exact ⟨rfl,rfl⟩
     ·refine dM id ?_
      simp only [go_sem]
      all_goals first | rfl | exact ⟨rfl,rfl⟩
    ·refine dM id ?_
     simp only [go_sem]
     all_goals first | rfl | exact ⟨rfl,rfl⟩
   refine aC (an fun E=>?_)
   simp only [go_sem]
   refine aC (an fun E=>?_)
   simp only [go_sem]
   refine ae E [.d (enD n)] [] [] hkc rfl rfl ⟨by simp only [go_sem],by rw [aa];decide⟩ rfl (by simp only [go_sem]) (by simp only [go_sem]) ?_
   rintro _ _ ⟨rfl,rfl⟩
   simp only [go_sem]
   refine iw E [33,0] none (K.map i64) rfl ?_
   simp only [go_sem]
   refine ml E 10 98 (some 1) rfl (by rw [aa];decide) ?_
   simp only [go_sem]
   obtain ⟨us,hus⟩:∃ us,us=w4 x v hid (can n) ts:=⟨_,rfl⟩
   have hul:us.length=K.length:=by rw [hus,B9,htl]
   refine aE E (X:={ q:Nat // q≤K.length }) (fun y=>[(0,.d (i64 i)),(1,.d (.bool hid)),(2,.at [101] 0),(3,.at [102] 0),(4,.at [103] 0),(5,.at [104] 0),(8,.at [8] 0),(9,.at [9] 0),(10,.vw [98] 0 y.1),(33,.d (.sl none (K.map i64))),(34,.d (i64 K.length)),(35,.d (i64 y.1))])
    (fun y=>[([101],.box [.d (.sl (some 9) (es.map enD))]),([102],.box [.d (.str x)]),([103],.box [.d (.sl (some 9) (v.enc.map enD))]),([104],.box [.clo 238 [.at [101] 0,.at [102] 0,.at [103] 0,.at [104] 0]]),([8],.box [.d .nils]),([9],.box [.d (i64 n.k),.d (i64 n.a),.d (i64 n.b),.d (i64 n.c),.d (i64 n.n),.d (.str n.name),.d (.str n.s),.d (.sl (some 3) (n.l.map fD)),.d (i64 n.pos)]),([98],.arr (some 1) ((us.take y.1).map fun t=>exD t.enc))]) [8,9,98,101,102,103,104] (fun y=>K.length-y.1) ⟨0,Nat.zero_le _⟩ id ?_ ?_
   ·simp only [go_sem]
    all_goals first | rfl | exact ⟨rfl,rfl⟩
   rintro ⟨q,hq⟩ E0
   refine aT E0 fun Q' hQ E'=>?_
   simp only at hq ⊢
   simp only [go_sem]
   refine ai E' (fun f1=>?_) (fun f1=>?_)<;>simp only [go_sem]
   ·have hq':q<K.length:=by omega
    refine ⟨⟨by omega,by omega⟩,?_⟩
    have hkm:=List.getElem_mem hq'
    have hkq:=hkn K[q] hkm
    obtain ⟨k,hkk⟩:∃ k:Nat,K[q]=(k:Int):=⟨K[q].toNat,by omega⟩
    rw [aw hq',show K.getD q 0=(k:Int) by simp [hq',hkk]]
    simp only [go_sem]
    have htq:ts.getD q az=trE es k:=by
     rw [hts]
     simp [hq',hkk]
    have hug:us.getD q az=wkT x v (hid || cW n q x) (trE es k):=by rw [hus,D8 (by omega),pD,htq]
    have hst:us.take (q+1)=us.take q++[us.getD q az]:=qH (by omega)
    rw [hug] at hst
    have c1:=Gf (G:=G) n q x hsi (fun h=>by rw [hKw] at hq';unfold aA at hq';rw [h] at hq';simpa [aI,aG,Nat.add_comm] using hq') (by omega)
    have c2:=ih k (hid || cW n q x) (by omega) (by omega)
    unfold enD efD at c1
    unfold exD at c2
    refine aj mixed E' fun X=>?_
    simp only [go_sem]
    cases hid with
    | true =>
      simp only [Bool.true_or] at c2 hst
      simp only [go_sem]
      refine bd X _ _ _ _ _ c2 rfl rfl ⟨by simp only [go_sem],by first | (rw [aa];decide) | (simp only [go_sem]<;>(try rw [aa])<;>decide)⟩ (by simp only [go_sem]) (by simp only [go_sem]) (by simp only [go_sem]) (by simp only [go_sem];try omega) ?_
      simp only [go_sem]
      refine ⟨by omega,by decide +kernel,?_⟩
      rw [show List.take q (List.map (fun t:RT=>exD t.enc) (us.take q))++[.agg [.sl (some 9) ((wkT x v true (trE es k)).enc.map enD)]]=(us.take (q+1)).map (fun t:RT=>exD t.enc) by
       rw [List.take_of_length_le (by rw [List.length_map,List.length_take];omega),hst,List.map_append];rfl]
      rw [ak ⟨by omega,by omega⟩,hQ]
      simp only [go_sem]
      refine ⟨⟨q+1,by omega⟩,by show K.length-(q+1)<_;omega,tau [([98],[52])],?_⟩
      simp only [go_sem]
      all_goals first | rfl | exact ⟨rfl,rfl⟩
    | false =>
      simp only [Bool.false_or] at c2 hst
      simp only [go_sem]
      refine aZ X c1 rfl rfl (by simp) ?_
      simp only [go_sem]
      refine bd X _ _ _ _ _ c2 rfl rfl ⟨by simp only [go_sem],by first | (rw [aa];decide) | (simp only [go_sem]<;>(try rw [aa])<;>decide)⟩ (by simp only [go_sem]) (by simp only [go_sem]) (by simp only [go_sem]) (by simp only [go_sem];try omega) ?_
      simp only [go_sem]
      refine ⟨by omega,by decide +kernel,?_⟩
      rw [show List.take q (List.map (fun t:RT=>exD t.enc) (us.take q))++[.agg [.sl (some 9) ((wkT x v (cW n q x) (trE es k)).enc.map enD)]]=(us.take (q+1)).map (fun t:RT=>exD t.enc) by
       rw [List.take_of_length_le (by rw [List.length_map,List.length_take];omega),hst,List.map_append];rfl]
      rw [ak ⟨by omega,by omega⟩,hQ]
      simp only [go_sem]
      refine ⟨⟨q+1,by omega⟩,by show K.length-(q+1)<_;omega,tau [([98],[52])],?_⟩
      simp only [go_sem]
      all_goals first | rfl | exact ⟨rfl,rfl⟩
   ·have h3:q=K.length:=by omega
    subst h3
    have hutk:us.take K.length=us:=List.take_of_length_le (by omega)
    have hug:(RT.mk (can n) us).good:=by
     have:=Gz (x:=x) (hid:=hid) hv hgd
     rw [Di (n:=can n) hy,← hus] at this
     exact this
    have husz:szs us≤900000:=by
     have:=JU (x:=x) (v:=v) (t:=.mk (can n) ts) (hid:=hid)
     rw [Di (n:=can n) hy,← hus,er] at this
     have h5:=Nat.mul_le_mul_right v.sz hsz
     omega
    have c3:=Dw (G:=G) (n:=n) (ts:=us) hsi (by rw [hul,hKw]) (bk.1 hug).2 (by omega) (by omega)
    rw [← hus] at hR
    rw [hR] at c3
    unfold enD efD at c3
    rw [hutk,hQ]
    simp only [go_sem]
    refine an fun E=>?_
    simp only [go_sem]
    refine cV E [98] (some 1) (us.map fun t=>exD t.enc) rfl (by simp only [go_sem];rfl) ?_
    simp only [go_sem]
    rw [List.take_of_length_le (by rw [List.length_map];omega)]
    refine ab E c3 rfl rfl (by simp) ?_
    rintro _ rfl
    unfold exD
    simp only [go_sem]
    refine El (.inl rfl) hB0 ?_
    simp only [go_sem]
    refine ⟨_,_,[101,102,103,104],id,⟨rfl,rfl⟩,?_⟩
    simp only [go_sem]
    rfl
theorem Hc {G} {es:List EN} (ht:bt es) (x:List UInt8) {v:RT} (hv:v.good) (hr:∀ n∈es,inR n.n) (hS:es.length*v.sz≤900000) (ns:List EN) (h:Int) :
  HCall Tryz.prog G 183 [.at [100] 0,.d (exD es),.d (.str x),.d (exD v.enc)] (spO ns h) [100] (fun r hp'=>r=.d (exD (bW x v (trE es (es.length-1))).enc)∧hp'=spO ns h):=by
 have hp:=ht.pos
 have hf:=ht.few
 have c:=zD (G:=G) ht x hv hr hS es.length (es.length-1) false (by omega) (by omega)
 rw [show (wkT x v false (trE es (es.length-1)))=bW x v (trE es (es.length-1)) from rfl] at c
 rw [show ((es.length-1:Nat):Int)=(es.length:Int)-1 by omega] at c
 generalize (bW x v (trE es (es.length-1))).enc=R at c ⊢
 unfold pO at c
 unfold exD spO at *
 refine aq Tryz.func183 rfl (by decide +kernel) (by simp [Tryz.ntmps183]) (veil fun E=>?_)
 simp only [go_sem]
 rw [ak ⟨by omega,by omega⟩]
 refine dC E (tau [([101],[5]),([102],[6]),([103],[7]),([104],[9])]) _ _ _ c rfl (by simp only [go_sem];try rfl) ⟨by simp only [go_sem],by first | (rw [aa];decide) | (simp only [go_sem]<;>(try rw [aa])<;>decide)⟩ rfl (by simp only [go_sem];try rfl) (by simp only [go_sem]) ?_
 rintro _ _ ⟨rfl,rfl⟩
 refine ⟨by simp only [go_sem];try simp;try omega,?_⟩
 simp only [go_sem]
 refine ⟨_,_,[100],id,⟨rfl,rfl⟩,?_⟩
 simp only [go_sem]
end Go.Proofs.YtejpnabbmgpmaaaGreat

namespace Go.Proofs.YtejpnabbmgpmaaaGreat
open Go.Ab
def gR (q:Int × RT):D:=if q.1=5 then exD q.2.enc else .agg [.nils]
theorem cD (t:RT):gR (5,t)=exD t.enc:=if_pos rfl
theorem bx {h:Int} {t:RT} (hh:h≠5):gR (h,t)=.agg [.nils]:=if_neg hh
structure Run (xs:List EN):Prop where
 may:bL xs=0
 rng:∀ n∈xs,inR n.n
theorem Run.t {xs:List EN} (h:Run xs):bt xs:=JR h.may
theorem JJ {xs:List EN} (h:Run xs) {i:Nat} (hi:i<xs.length):∀ n∈sbE xs i,GL n:=fun n hn=>by
 rw [← cT h.t hi] at hn
 exact bY _ (dW h.t h.rng hi).rt n hn
theorem jm {xs:List EN} (h:Run xs) {i:Nat} (hi:i<xs.length):Run (sbE xs i):=⟨wA h.t hi,fun n hn=>(JJ h hi n hn).2⟩
theorem iT {xs:List EN} (h:Run xs) {i:Nat} (hi:i<xs.length):(trE xs i).sz≤600:=by
 show (trE xs i).enc.length≤_
 rw [cT h.t hi,gK]
 exact Nat.le_trans (m8 h.t hi) h.t.few
theorem qF {G} {xs:List EN} (h:Run xs) {j:Nat} (hj:j<xs.length) (x:List UInt8) {v:RT} (hv:v.good) (hs:v.sz≤1500) (s:Int) :
  HCall Tryz.prog G 183 [.at [100] 0,.d (exD (sbE xs j)),.d (.str x),.d (exD v.enc)] (spO xs s) [100] (fun r hp'=>r=.d (exD (bW x v (trE xs j)).enc)∧hp'=spO xs s):=by
 have hS:=iT h hj
 have e:(sbE xs j).length=(trE xs j).sz:=by rw [← cT h.t hj];rfl
 have:=Hc (G:=G) (jm h hj).t x hv (jm h hj).rng (by rw [e];exact Nat.le_trans (Nat.mul_le_mul hS hs) (by decide)) xs s
 rwa [vL h.t hj] at this
theorem aP (n:EN):enD n=.agg [i64 n.k,i64 n.a,i64 n.b,i64 n.c,i64 n.n,.str n.name,.str n.s,.sl (some 3) (n.l.map fD),i64 n.pos]:=rfl
theorem bB {xs:List EN} (ht:bt xs) {i:Nat} (hi:i<xs.length) {k:Int} (hk:k∈ag (ndE xs i)):∃ a:Nat,k=(a:Int)∧a<i:=by
 obtain ⟨h1,h2⟩:=ax (aJ ht) hi k hk
 exact ⟨k.toNat,by omega,by omega⟩
def ktE (xs:List EN) (i:Nat):List RT:=(ag (ndE xs i)).map fun k=>trE xs k.toNat
theorem xN {xs:List EN} (ht:bt xs) {i:Nat} (hi:i<xs.length):trE xs i=.mk (can (ndE xs i)) (ktE xs i):=mB (aJ ht) hi
theorem re {xs:List EN} (ht:bt xs) {i:Nat} (hi:i<xs.length) (j:Nat):(trE xs i).kid j=(ktE xs i).getD j az:=by unfold RT.kid;rw [xN ht hi];rfl
theorem eY {n:EN} (h:n.k=5∨n.k=12∨n.k=13):ag n=[n.a]:=by rcases h with h | h | h<;>simp [ag,h,aI,aG]
theorem kX {n:EN} (h:n.k=6∨n.k=7∨n.k=8∨n.k=10):ag n=[n.a,n.b]:=by rcases h with h | h | h | h<;>simp [ag,h,aI,aG]
theorem B6 {n:EN} (h:n.k=9):ag n=[n.a,n.b,n.c]:=by simp [ag,h,aI,aG]
set_option maxHeartbeats 1000000 in
theorem Ga {G} {xs:List EN} (h:Run xs) {i:Nat} (hi:i<xs.length) (k6:(ndE xs i).k=6) :
  HCall Tryz.prog G 182 [.at [100] 0,.d (enD (ndE xs i))] (spO xs 5) [100] (fun r hp'=>r=.d (gR (ar (can (ndE xs i)) (ktE xs i)))∧hp'=spO xs (ar (can (ndE xs i)) (ktE xs i)).1):=by
 have ht:=h.t
 have hke:=kX (.inl k6)
 obtain ⟨a,ha,hai⟩:=bB ht hi (k:=(ndE xs i).a) (by rw [hke];simp)
 obtain ⟨b,hb,hbi⟩:=bB ht hi (k:=(ndE xs i).b) (by rw [hke];simp)
 have hga:=aN (show a<xs.length by omega)
 have e0:(ktE xs i).getD 0 az=trE xs a:=by unfold ktE;rw [hke,ha];rfl
 have e1:(ktE xs i).getD 1 az=trE xs b:=by unfold ktE;rw [hke,hb];rfl
 have hR:ar (can (ndE xs i)) (ktE xs i)=if (ndE xs a).k=5 then (5,bW (ndE xs a).name (trE xs b) ((trE xs a).kid 0)) else (4,az):=by
  unfold ar
  rw [ck,if_pos k6]
  simp only [e0,e1]
  rw [iP (by omega)]
  rfl
 rw [hR]
 clear hR e0 e1
 generalize ndE xs i=n at *
 obtain ⟨f,hf⟩:∃ f,f=ndE xs a:=⟨_,rfl⟩
 by_cases k5:f.k=5
 ·obtain ⟨c,hc,hca⟩:=bB ht (show a<xs.length by omega) (k:=f.a) (by rw [hf,eY (.inl (by rw [← hf];exact k5))];simp)
  have ek:(trE xs a).kid 0=trE xs c:=by
   rw [re ht (by omega)]
   unfold ktE
   rw [← hf,eY (.inl k5),hc]
   rfl
  rw [← hf] at hga ⊢
  rw [if_pos k5,ek,cD]
  have c1:=cH (G:=G) ht h.may 5 (show c<xs.length by omega)
  have c2:=cH (G:=G) ht h.may 5 (show b<xs.length by omega)
  have hb2:=iT h (show b<xs.length by omega)
  have c3:=qF (G:=G) h (show c<xs.length by omega) f.name (dW ht h.rng (show b<xs.length by omega)) (by omega) 5
  rw [cT ht (by omega)] at c3
  rw [← hc] at c1
  rw [← hb] at c2
  generalize (bW f.name (trE xs b) (trE xs c)).enc=R at c3 ⊢
  generalize sbE xs c=Y at c1 c3
  generalize sbE xs b=Z at c2 c3
  unfold exD spO at *
  rw [aP n]
  refine aq Tryz.func182 rfl (by decide +kernel) (by simp [Tryz.ntmps182]) (veil fun E=>?_)
  simp only [go_sem]
  refine aj mixed E fun X=>?_
  simp only [go_sem]
  refine b9 X (d:=7) [100] 0 none [.d (.sl (some 9) (xs.map enD)),.d (i64 5)] (by simp only [go_sem]) rfl rfl ?_
  simp only [go_sem]
  refine ⟨⟨by omega,by omega⟩,?_⟩
  rw [ha]
  first | rw [hga] | rw [Int.toNat_natCast,hga]
  simp only [go_sem]
  refine ⟨by decide +kernel,?_⟩
  rw [decide_eq_false (show ¬ ¬ f.k=5 by simp [k5])]
  simp only [go_sem]
  refine aj mixed E fun X=>?_
  simp only [go_sem]
  refine bd X _ _ _ _ _ c1 rfl rfl ⟨by simp only [go_sem],by first | (rw [aa];decide) | (simp only [go_sem]<;>(try rw [aa])<;>decide)⟩ (by simp only [go_sem]) (by simp only [go_sem]) (by simp only [go_sem]) (by simp only [go_sem];try omega) ?_
  simp only [go_sem]
  refine bd X _ _ _ _ _ c2 rfl rfl ⟨by simp only [go_sem],by first | (rw [aa];decide) | (simp only [go_sem]<;>(try rw [aa])<;>decide)⟩ (by simp only [go_sem]) (by simp only [go_sem]) (by simp only [go_sem]) (by simp only [go_sem];try omega) ?_
  simp only [go_sem]
  refine bd X _ _ _ _ _ c3 rfl rfl ⟨by simp only [go_sem],by first | (rw [aa];decide) | (simp only [go_sem]<;>(try rw [aa])<;>decide)⟩ (by simp only [go_sem]) (by simp only [go_sem]) (by simp only [go_sem]) (by simp only [go_sem];try omega) ?_
  simp only [go_sem]
  refine ⟨by decide +kernel,?_⟩
  refine ⟨_,_,[100],id,⟨rfl,rfl⟩,?_⟩
  simp only [go_sem]
 ·rw [← hf] at hga ⊢
  rw [if_neg k5,bx (by decide)]
  have c1:=gS (G:=G) xs 5 4
  unfold spO at *
  rw [aP n]
  refine aq Tryz.func182 rfl (by decide +kernel) (by simp [Tryz.ntmps182]) (veil fun E=>?_)
  simp only [go_sem]
  refine aj mixed E fun X=>?_
  simp only [go_sem]
  refine b9 X (d:=7) [100] 0 none [.d (.sl (some 9) (xs.map enD)),.d (i64 5)] (by simp only [go_sem]) rfl rfl ?_
  simp only [go_sem]
  refine ⟨⟨by omega,by omega⟩,?_⟩
  rw [ha]
  first | rw [hga] | rw [Int.toNat_natCast,hga]
  simp only [go_sem]
  refine ⟨by decide +kernel,?_⟩
  rw [decide_eq_true k5]
  simp only [go_sem]
  refine ae E _ _ _ c1 rfl rfl ⟨by simp only [go_sem],by first | (rw [aa];decide) | (simp only [go_sem]<;>(try rw [aa])<;>decide)⟩ (by simp only [go_sem]) (by simp only [go_sem]) (by simp only [go_sem]) ?_
  rintro _ _ ⟨rfl,rfl⟩
  refine ⟨by simp only [go_sem];try omega,?_⟩
  simp only [go_sem]
  refine ⟨_,_,[100],id,⟨rfl,rfl⟩,?_⟩
  simp only [go_sem]
theorem F3 {G} {xs:List EN} (h:Run xs) {i:Nat} (hi:i<xs.length) (k9:(ndE xs i).k=9) :
  HCall Tryz.prog G 185 [.at [100] 0,.d (enD (ndE xs i))] (spO xs 5) [100] (fun r hp'=>r=.d (gR (ar (can (ndE xs i)) (ktE xs i)))∧hp'=spO xs (ar (can (ndE xs i)) (ktE xs i)).1):=by
 have ht:=h.t
 have hke:=B6 k9
 obtain ⟨a,ha,hai⟩:=bB ht hi (k:=(ndE xs i).a) (by rw [hke];simp)
 obtain ⟨b,hb,hbi⟩:=bB ht hi (k:=(ndE xs i).b) (by rw [hke];simp)
 obtain ⟨c,hc,hci⟩:=bB ht hi (k:=(ndE xs i).c) (by rw [hke];simp)
 have hga:=aN (show a<xs.length by omega)
 have e0:(ktE xs i).getD 0 az=trE xs a:=by unfold ktE;rw [hke,ha];rfl
 have e1:(ktE xs i).getD 1 az=trE xs b:=by unfold ktE;rw [hke,hb];rfl
 have e2:(ktE xs i).getD 2 az=trE xs c:=by unfold ktE;rw [hke,hc];rfl
 have hR:ar (can (ndE xs i)) (ktE xs i)=if (ndE xs a).k=2 then (5,if (ndE xs a).n=1 then trE xs b else trE xs c) else (4,az):=by
  unfold ar
  rw [ck,if_neg (by omega),if_neg (by omega),if_neg (by omega),if_pos k9]
  simp only [e0,e1,e2]
  rw [iP (by omega)]
  rfl
 obtain ⟨R,hRd⟩:∃ R,R=gR (ar (can (ndE xs i)) (ktE xs i)):=⟨_,rfl⟩
 obtain ⟨w,hw⟩:∃ w,w=(ar (can (ndE xs i)) (ktE xs i)).1:=⟨_,rfl⟩
 rw [← hRd,← hw]
 rw [hR] at hRd hw
 clear hR e0 e1 e2
 have c1:=cH (G:=G) ht h.may 5 (show b<xs.length by omega)
 have c2:=cH (G:=G) ht h.may 5 (show c<xs.length by omega)
 have c3:=gS (G:=G) xs 5 4
 rw [← hb,← cT ht (by omega)] at c1
 rw [← hc,← cT ht (by omega)] at c2
 generalize ndE xs i=n at *
 obtain ⟨f,hf⟩:∃ f,f=ndE xs a:=⟨_,rfl⟩
 rw [← hf] at hga hRd hw
 generalize trE xs b=Y at *
 generalize trE xs c=Z at *
 unfold spO at *
 rw [aP n]
 refine aq Tryz.func185 rfl (by decide +kernel) (by simp [Tryz.ntmps185]) (veil fun E=>?_)
 simp only [go_sem]
 refine aj mixed E fun X=>?_
 simp only [go_sem]
 refine b9 X (d:=7) [100] 0 none [.d (.sl (some 9) (xs.map enD)),.d (i64 5)] (by simp only [go_sem]) rfl rfl ?_
 simp only [go_sem]
 refine ⟨⟨by omega,by omega⟩,?_⟩
 rw [ha]
 first | rw [hga] | rw [Int.toNat_natCast,hga]
 simp only [go_sem]
 refine ⟨by decide +kernel,?_⟩
 refine ai E (fun k2=>?_) (fun k2=>?_)<;>simp only [go_sem]
 ·rw [if_neg k2] at hRd hw
  rw [bx (by decide)] at hRd
  obtain rfl:w=4:=hw
  subst hRd
  refine ae E _ _ _ c3 rfl rfl ⟨by simp only [go_sem],by first | (rw [aa];decide) | (simp only [go_sem]<;>(try rw [aa])<;>decide)⟩ (by simp only [go_sem]) (by simp only [go_sem]) (by simp only [go_sem]) ?_
  rintro _ _ ⟨rfl,rfl⟩
  refine ⟨by simp only [go_sem];try omega,?_⟩
  simp only [go_sem]
  refine ⟨_,_,[100],id,⟨rfl,rfl⟩,?_⟩
  simp only [go_sem]
 have k2:f.k=2:=by simpa using k2
 rw [if_pos k2] at hRd hw
 rw [cD] at hRd
 obtain rfl:w=5:=hw
 refine ai E (fun k1=>?_) (fun k1=>?_)<;>simp only [go_sem]
 ·rw [if_pos k1] at hRd
  subst hRd
  unfold exD at *
  refine ae E _ _ _ c1 rfl rfl ⟨by simp only [go_sem],by first | (rw [aa];decide) | (simp only [go_sem]<;>(try rw [aa])<;>decide)⟩ (by simp only [go_sem]) (by simp only [go_sem]) (by simp only [go_sem]) ?_
  rintro _ _ ⟨rfl,rfl⟩
  refine ⟨by simp only [go_sem];try omega,?_⟩
  simp only [go_sem]
  refine ⟨_,_,[100],id,⟨rfl,rfl⟩,?_⟩
  simp only [go_sem]
 ·rw [if_neg k1] at hRd
  subst hRd
  unfold exD at *
  refine ae E _ _ _ c2 rfl rfl ⟨by simp only [go_sem],by first | (rw [aa];decide) | (simp only [go_sem]<;>(try rw [aa])<;>decide)⟩ (by simp only [go_sem]) (by simp only [go_sem]) (by simp only [go_sem]) ?_
  rintro _ _ ⟨rfl,rfl⟩
  refine ⟨by simp only [go_sem];try omega,?_⟩
  simp only [go_sem]
  refine ⟨_,_,[100],id,⟨rfl,rfl⟩,?_⟩
  simp only [go_sem]
end Go.Proofs.YtejpnabbmgpmaaaGreat

namespace Go.Proofs.YtejpnabbmgpmaaaGreat
open Go.Ab
def Dd (l:List EF) (p:EF→Bool):Int:=if l.findIdx p<l.length then (l.findIdx p:Int) else -1
theorem Cp {l:List EF} {p:EF→Bool} {i:Nat} (hi:i<l.length) (ha:(l.take i).any p=false) (hp:p l[i]=true):l.findIdx p=i:=by
 refine (List.findIdx_eq hi).2 ⟨hp,fun j hji=>?_⟩
 have:=List.any_eq_false.1 ha l[j] (List.mem_take_iff_getElem.2 ⟨j,by omega,rfl⟩)
 simpa using this
theorem Hn {l:List EF} {p:EF→Bool} (ha:l.any p=false):¬ l.findIdx p<l.length:=fun h=>by
 have:=List.findIdx_getElem (w:=h)
 have:=List.any_eq_false.1 ha _ (List.getElem_mem h)
 simp_all
theorem yJ {G} (l:List EF) (p:EF→Bool) (f:Nat) (caps:List D) (hl:l.length≤1000000) (hc:∀ x∈l,HP Tryz.prog G f (fD x::caps) (fun r=>r=.d (.bool (p x)))) :
  HP Tryz.prog G 237 [.sl (some 3) (l.map fD),.clo f caps] (fun r=>r=.d (i64 (Dd l p))):=by
 have hget:∀ {i:Nat} (h:i<l.length),(l.map fD).getD i .nilp=.agg [.str l[i].nm,.str l[i].var,i64 l[i].to]:=fun h=>Cy h
 refine al Tryz.func237 rfl (by decide +kernel) (by simp [Tryz.ntmps237]) (veil fun E=>?_)
 simp only [go_sem]
 refine cQ E (X:={ i:Nat // i≤l.length∧(l.take i).any p=false }) (fun x=>[(0,.d (.sl (some 3) (l.map fD))),(1,.d (.clo f caps)),(6,.d (.sl (some 3) (l.map fD))),(7,.d (i64 l.length)),(8,.d (i64 x.1))]) (fun x=>l.length-x.1) rfl ⟨0,Nat.zero_le _,by simp⟩ ?_ ?_
 ·simp only [go_sem]
  all_goals rfl
 rintro ⟨i,hi,hab⟩ E'
 simp only [go_sem]
 refine ai E' (fun h1=>?_) (fun h1=>?_)<;>simp only [go_sem]
 ·have h1':i<l.length:=by omega
  refine ⟨⟨by omega,by omega⟩,?_⟩
  rw [hget h1']
  simp only [go_sem]
  refine jD E' (hc l[i] (List.getElem_mem h1')) rfl rfl (by simp) ?_
  rintro _ rfl
  simp only [go_sem]
  refine aR E' (fun h2=>?_) (fun h2=>?_)<;>simp only [go_sem]
  ·unfold Dd
   rw [Cp h1' hab h2,if_pos h1']
  ·refine ⟨⟨i+1,by omega,fP h1' hab h2⟩,by show l.length-(i+1)<_;omega,?_⟩
   rw [ak ⟨by omega,by omega⟩];rfl
 ·have h3:i=l.length:=by omega
  subst h3
  rw [List.take_length] at hab
  unfold Dd
  rw [if_neg (Hn hab)]
theorem Gm {G} (f:EF) (n:EN):HP Tryz.prog G 242 [fD f,.ptr (enD n)] (fun r=>r=.d (.bool (f.nm == n.name))):=by
 rw [aP n]
 unfold fD
 refine al Tryz.func242 rfl (by decide +kernel) (by simp [Tryz.ntmps242]) (veil fun E=>?_)
 simp only [go_sem]
theorem EG {G} (f:EF) (n:EN):HP Tryz.prog G 243 [fD f,.ptr (enD n)] (fun r=>r=.d (.bool (f.nm == n.name))):=by
 rw [aP n]
 unfold fD
 refine al Tryz.func243 rfl (by decide +kernel) (by simp [Tryz.ntmps243]) (veil fun E=>?_)
 simp only [go_sem]
theorem Kh {n:EN} (hp:aG n.k=true):(can n).l.map (·.nm)=n.l.map (·.nm):=by
 have hl:(can n).l=aV (List.replicate (aA n) 0) (aI n.k) n.l 0:=by
  show (if aG n.k then aV (List.replicate (aA n) 0) (aI n.k) n.l 0 else [])=_
  rw [if_pos hp]
 rw [hl,gw (·.nm) (fun _ _=>rfl)]
theorem kY {n:EN} (hp:aG n.k=true) (x:List UInt8):dy (can n).l x=dy n.l x∧(can n).l.length=n.l.length:=by
 have h:=Kh hp
 have hl:=congrArg List.length h
 rw [List.length_map,List.length_map] at hl
 have key:∀ l:List EF,dy l x=(l.map (·.nm)).findIdx (· == x):=fun l=>by
  unfold dy
  rw [List.findIdx_map]
  rfl
 exact ⟨by rw [key,key,h],hl⟩
theorem qd {n:EN} (h:n.k=11):ag n=n.l.map (·.to):=by simp [ag,h,aI,aG]
end Go.Proofs.YtejpnabbmgpmaaaGreat

namespace Go.Proofs.YtejpnabbmgpmaaaGreat
open Go.Ab
set_option maxHeartbeats 1000000 in
theorem Gr {G} {xs:List EN} (h:Run xs) {i:Nat} (hi:i<xs.length) (k12:(ndE xs i).k=12) :
  HCall Tryz.prog G 187 [.at [100] 0,.d (enD (ndE xs i))] (spO xs 5) [100] (fun r hp'=>r=.d (gR (ar (can (ndE xs i)) (ktE xs i)))∧hp'=spO xs (ar (can (ndE xs i)) (ktE xs i)).1):=by
 have ht:=h.t
 have hke:=eY (.inr (.inl k12))
 obtain ⟨a,ha,hai⟩:=bB ht hi (k:=(ndE xs i).a) (by rw [hke];simp)
 have hga:=aN (show a<xs.length by omega)
 have hla:=jZ ht _ (by rw [ba (show a<xs.length by omega)];exact List.getElem_mem _:ndE xs a∈xs)
 have e0:(ktE xs i).getD 0 az=trE xs a:=by unfold ktE;rw [hke,ha];rfl
 have hR:ar (can (ndE xs i)) (ktE xs i)=if (ndE xs a).k=11∧dy (can (ndE xs a)).l (ndE xs i).name<(can (ndE xs a)).l.length then (5,(trE xs a).kid (dy (can (ndE xs a)).l (ndE xs i).name)) else (4,az):=by
  unfold ar
  rw [ck,if_neg (by omega),if_neg (by omega),if_neg (by omega),if_neg (by omega),if_neg (by omega),if_pos k12]
  simp only [e0]
  rw [iP (by omega)]
  rfl
 obtain ⟨R,hRd⟩:∃ R,R=gR (ar (can (ndE xs i)) (ktE xs i)):=⟨_,rfl⟩
 obtain ⟨w,hw⟩:∃ w,w=(ar (can (ndE xs i)) (ktE xs i)).1:=⟨_,rfl⟩
 rw [← hRd,← hw]
 rw [hR] at hRd hw
 clear hR e0
 generalize ndE xs i=n at *
 have c3:=gS (G:=G) xs 5 4
 obtain ⟨f,hf⟩:∃ f,f=ndE xs a:=⟨_,rfl⟩
 rw [← hf] at hga hRd hw hla
 have c0:=yJ (G:=G) f.l (fun b=>b.nm == n.name) 242 [.ptr (enD n)] (by omega) (fun b _=>Gm b n)
 obtain ⟨z,hz⟩:∃ z,z=Dd f.l (fun b=>b.nm == n.name):=⟨_,rfl⟩
 rw [← hz] at c0
 by_cases hk:f.k=11∧dy f.l n.name<f.l.length
 ·obtain ⟨k11,hj⟩:=hk
  obtain ⟨j1,j2⟩:=kY (n:=f) (by rw [k11];rfl) n.name
  rw [j1,j2,if_pos ⟨k11,hj⟩] at hRd hw
  rw [cD] at hRd
  obtain rfl:w=5:=hw
  have hzj:z=(dy f.l n.name:Int):=by rw [hz];exact if_pos hj
  generalize dy f.l n.name=j at hRd hzj hj
  obtain ⟨q,hq,hqa⟩:=bB ht (show a<xs.length by omega) (k:=(fdE f.l j).to) (by rw [← hf,qd k11];refine List.mem_map.2 ⟨fdE f.l j,?_,rfl⟩;simp [fdE,hj])
  have ek:(trE xs a).kid j=trE xs q:=by
   rw [re ht (by omega)]
   unfold ktE
   rw [← hf,qd k11]
   simp [hj]
   rw [show f.l[j].to=(fdE f.l j).to by simp [fdE,hj],hq]
   rfl
  have c1:=cH (G:=G) ht h.may 5 (show q<xs.length by omega)
  rw [← hq,← cT ht (by omega)] at c1
  rw [ek] at hRd
  generalize trE xs q=Y at *
  subst hRd
  unfold exD spO at *
  rw [aP n] at c0 ⊢
  refine aq Tryz.func187 rfl (by decide +kernel) (by simp [Tryz.ntmps187]) (veil fun E=>?_)
  simp only [go_sem]
  refine aj mixed E fun X=>?_
  simp only [go_sem]
  refine b9 X (d:=8) [100] 0 none [.d (.sl (some 9) (xs.map enD)),.d (i64 5)] (by simp only [go_sem]) rfl rfl ?_
  simp only [go_sem]
  refine ⟨⟨by omega,by omega⟩,?_⟩
  rw [ha] at c0 ⊢
  first | rw [hga] | rw [Int.toNat_natCast,hga]
  simp only [go_sem]
  refine ⟨by decide +kernel,?_⟩
  refine qf E [3] (.agg [i64 n.k,i64 (a:Int),i64 n.b,i64 n.c,i64 n.n,.str n.name,.str n.s,.sl (some 3) (n.l.map fD),i64 n.pos]) rfl rfl ?_
  simp only [go_sem]
  refine ab E (c0) rfl rfl (by simp) ?_
  rintro _ rfl
  simp only [go_sem]
  rw [decide_eq_false (show ¬ ¬ f.k=11 by simp [k11])]
  simp only [go_sem]
  rw [decide_eq_false (show ¬ z<0 by omega)]
  simp only [go_sem]
  refine ⟨⟨by omega,by omega⟩,?_⟩
  rw [show z.toNat=j by omega,cR hj]
  simp only [go_sem]
  refine ae E _ _ _ c1 rfl rfl ⟨by simp only [go_sem],by first | (rw [aa];decide) | (simp only [go_sem]<;>(try rw [aa])<;>decide)⟩ (by simp only [go_sem]) (by simp only [go_sem]) (by simp only [go_sem]) ?_
  rintro _ _ ⟨rfl,rfl⟩
  refine ⟨by simp only [go_sem];try omega,?_⟩
  simp only [go_sem]
  refine ⟨_,_,[100],id,⟨rfl,rfl⟩,?_⟩
  simp only [go_sem]
 ·rw [if_neg (by
   rintro ⟨k11,hj⟩
   obtain ⟨j1,j2⟩:=kY (n:=f) (by rw [k11];rfl) n.name
   rw [j1,j2] at hj
   exact hk ⟨k11,hj⟩)] at hRd hw
  unfold spO at *
  rw [aP n] at c0 ⊢
  refine aq Tryz.func187 rfl (by decide +kernel) (by simp [Tryz.ntmps187]) (veil fun E=>?_)
  simp only [go_sem]
  refine aj mixed E fun X=>?_
  simp only [go_sem]
  refine b9 X (d:=8) [100] 0 none [.d (.sl (some 9) (xs.map enD)),.d (i64 5)] (by simp only [go_sem]) rfl rfl ?_
  simp only [go_sem]
  refine ⟨⟨by omega,by omega⟩,?_⟩
  rw [ha] at c0 ⊢
  first | rw [hga] | rw [Int.toNat_natCast,hga]
  simp only [go_sem]
  refine ⟨by decide +kernel,?_⟩
  refine qf E [3] (.agg [i64 n.k,i64 (a:Int),i64 n.b,i64 n.c,i64 n.n,.str n.name,.str n.s,.sl (some 3) (n.l.map fD),i64 n.pos]) rfl rfl ?_
  simp only [go_sem]
  refine ab E (c0) rfl rfl (by simp) ?_
  rintro _ rfl
  simp only [go_sem]
  refine aF E (fun h1=>?_) (fun h1=>?_)<;>simp only [go_sem]
  ·rw [bx (by decide)] at hRd
   obtain rfl:w=4:=hw
   subst hRd
   refine ae E _ _ _ c3 rfl rfl ⟨by simp only [go_sem],by first | (rw [aa];decide) | (simp only [go_sem]<;>(try rw [aa])<;>decide)⟩ (by simp only [go_sem]) (by simp only [go_sem]) (by simp only [go_sem]) ?_
   rintro _ _ ⟨rfl,rfl⟩
   refine ⟨by simp only [go_sem];try omega,?_⟩
   simp only [go_sem]
   refine ⟨_,_,[100],id,⟨rfl,rfl⟩,?_⟩
   simp only [go_sem]
  ·have k11:f.k=11:=by simpa using h1
   have hz1:z = -1:=by rw [hz];exact if_neg fun hj=>hk ⟨k11,hj⟩
   rw [decide_eq_true (show z<0 by omega)]
   simp only [go_sem]
   rw [bx (by decide)] at hRd
   obtain rfl:w=4:=hw
   subst hRd
   refine ae E _ _ _ c3 rfl rfl ⟨by simp only [go_sem],by first | (rw [aa];decide) | (simp only [go_sem]<;>(try rw [aa])<;>decide)⟩ (by simp only [go_sem]) (by simp only [go_sem]) (by simp only [go_sem]) ?_
   rintro _ _ ⟨rfl,rfl⟩
   refine ⟨by simp only [go_sem];try omega,?_⟩
   simp only [go_sem]
   refine ⟨_,_,[100],id,⟨rfl,rfl⟩,?_⟩
   simp only [go_sem]
set_option maxHeartbeats 1000000 in
theorem Ff {G} {xs:List EN} (h:Run xs) {i:Nat} (hi:i<xs.length) (k14:(ndE xs i).k=14) :
  HCall Tryz.prog G 188 [.at [100] 0,.d (enD (ndE xs i))] (spO xs 5) [100] (fun r hp'=>r=.d (gR (ar (can (ndE xs i)) (ktE xs i)))∧hp'=spO xs (ar (can (ndE xs i)) (ktE xs i)).1):=by
 have ht:=h.t
 have hke:=wW k14
 obtain ⟨a,ha,hai⟩:=bB ht hi (k:=(ndE xs i).a) (by rw [hke];simp)
 have hga:=aN (show a<xs.length by omega)
 have hln:=jZ ht _ (by rw [ba hi];exact List.getElem_mem _:ndE xs i∈xs)
 have e0:(ktE xs i).getD 0 az=trE xs a:=by unfold ktE;rw [hke,ha];rfl
 have hR:ar (can (ndE xs i)) (ktE xs i)=if (ndE xs a).k=13∧dy (can (ndE xs i)).l (ndE xs a).name<(can (ndE xs i)).l.length then (5,bW (fdE (can (ndE xs i)).l (dy (can (ndE xs i)).l (ndE xs a).name)).var ((trE xs a).kid 0) ((ktE xs i).getD (dy (can (ndE xs i)).l (ndE xs a).name+1) az)) else (4,az):=by
  unfold ar
  rw [ck,if_neg (by omega),if_neg (by omega),if_neg (by omega),if_neg (by omega),if_neg (by omega),if_neg (by omega),if_pos k14]
  simp only [e0]
  rw [iP (by omega)]
  rfl
 have e1:∀ j,j<(ndE xs i).l.length→(ktE xs i).getD (j+1) az=trE xs (fdE (ndE xs i).l j).to.toNat:=fun j hj=>by
  unfold ktE
  rw [hke]
  simp [hj,fdE]
 have e2:∀ j,j<(ndE xs i).l.length→∃ q:Nat,(fdE (ndE xs i).l j).to=(q:Int)∧q<i:=fun j hj=>bB ht hi (by rw [hke];refine List.mem_cons_of_mem _ (List.mem_map.2 ⟨fdE (ndE xs i).l j,?_,rfl⟩);simp [fdE,hj])
 obtain ⟨j1,j2⟩:=kY (n:=ndE xs i) (by rw [k14];rfl) (ndE xs a).name
 rw [j1,j2,rU (by rw [k14];rfl)] at hR
 obtain ⟨R,hRd⟩:∃ R,R=gR (ar (can (ndE xs i)) (ktE xs i)):=⟨_,rfl⟩
 obtain ⟨w,hw⟩:∃ w,w=(ar (can (ndE xs i)) (ktE xs i)).1:=⟨_,rfl⟩
 rw [← hRd,← hw]
 rw [hR] at hRd hw
 clear hR e0 j1 j2
 obtain ⟨us,hus⟩:∃ us,us=ktE xs i:=⟨_,rfl⟩
 rw [← hus] at hRd hw e1
 clear hus
 generalize ndE xs i=n at *
 have c3:=gS (G:=G) xs 5 4
 obtain ⟨f,hf⟩:∃ f,f=ndE xs a:=⟨_,rfl⟩
 rw [← hf] at hga hRd hw
 have c0:=yJ (G:=G) n.l (fun b=>b.nm == f.name) 243 [.ptr (enD f)] (by omega) (fun b _=>EG b f)
 obtain ⟨z,hz⟩:∃ z,z=Dd n.l (fun b=>b.nm == f.name):=⟨_,rfl⟩
 rw [← hz] at c0
 by_cases hk:f.k=13∧dy n.l f.name<n.l.length
 ·obtain ⟨k13,hj⟩:=hk
  rw [if_pos ⟨k13,hj⟩] at hRd hw
  rw [cD] at hRd
  obtain rfl:w=5:=hw
  have hzj:z=(dy n.l f.name:Int):=by rw [hz];exact if_pos hj
  generalize dy n.l f.name=j at hRd hzj hj
  obtain ⟨q,hq,hqa⟩:=e2 j hj
  rw [e1 j hj,hq,Int.toNat_natCast] at hRd
  obtain ⟨c,hc,hca⟩:=bB ht (show a<xs.length by omega) (k:=f.a) (by rw [← hf,eY (.inr (.inr k13))];simp)
  have ek:(trE xs a).kid 0=trE xs c:=by
   rw [re ht (by omega)]
   unfold ktE
   rw [← hf,eY (.inr (.inr k13)),hc]
   rfl
  rw [ek] at hRd
  have c1:=cH (G:=G) ht h.may 5 (show q<xs.length by omega)
  have c2:=cH (G:=G) ht h.may 5 (show c<xs.length by omega)
  have hb2:=iT h (show c<xs.length by omega)
  have c4:=qF (G:=G) h (show q<xs.length by omega) (fdE n.l j).var (dW ht h.rng (show c<xs.length by omega)) (by omega) 5
  rw [cT ht (by omega)] at c4
  rw [← hq] at c1
  rw [← hc] at c2
  generalize (bW (fdE n.l j).var (trE xs c) (trE xs q)).enc=V at c4 hRd
  generalize sbE xs q=Y at c1 c4
  generalize sbE xs c=Z at c2 c4
  subst hRd
  unfold exD spO at *
  rw [aP f] at c0
  rw [aP n]
  refine aq Tryz.func188 rfl (by decide +kernel) (by simp [Tryz.ntmps188]) (veil fun E=>?_)
  simp only [go_sem]
  refine aj mixed E fun X=>?_
  simp only [go_sem]
  refine b9 X (d:=8) [100] 0 none [.d (.sl (some 9) (xs.map enD)),.d (i64 5)] (by simp only [go_sem]) rfl rfl ?_
  simp only [go_sem]
  refine ⟨⟨by omega,by omega⟩,?_⟩
  rw [ha]
  first | rw [hga] | rw [Int.toNat_natCast,hga]
  simp only [go_sem]
  refine ⟨by decide +kernel,?_⟩
  refine qf E [5] (.agg [i64 f.k,i64 f.a,i64 f.b,i64 f.c,i64 f.n,.str f.name,.str f.s,.sl (some 3) (f.l.map fD),i64 f.pos]) rfl rfl ?_
  simp only [go_sem]
  refine ab E (c0) rfl rfl (by simp) ?_
  rintro _ rfl
  simp only [go_sem]
  rw [decide_eq_false (show ¬ ¬ f.k=13 by simp [k13])]
  simp only [go_sem]
  rw [decide_eq_false (show ¬ z<0 by omega)]
  simp only [go_sem]
  refine aj mixed E fun X=>?_
  simp only [go_sem]
  refine ⟨⟨by omega,by omega⟩,?_⟩
  rw [show z.toNat=j by omega,cR hj]
  simp only [go_sem]
  refine bd X _ _ _ _ _ c1 rfl rfl ⟨by simp only [go_sem],by first | (rw [aa];decide) | (simp only [go_sem]<;>(try rw [aa])<;>decide)⟩ (by simp only [go_sem]) (by simp only [go_sem]) (by simp only [go_sem]) (by simp only [go_sem];try omega) ?_
  simp only [go_sem]
  refine ⟨⟨by omega,by omega⟩,?_⟩
  rw [show z.toNat=j by omega,cR hj]
  simp only [go_sem]
  refine bd X _ _ _ _ _ c2 rfl rfl ⟨by simp only [go_sem],by first | (rw [aa];decide) | (simp only [go_sem]<;>(try rw [aa])<;>decide)⟩ (by simp only [go_sem]) (by simp only [go_sem]) (by simp only [go_sem]) (by simp only [go_sem];try omega) ?_
  simp only [go_sem]
  refine bd X _ _ _ _ _ c4 rfl rfl ⟨by simp only [go_sem],by first | (rw [aa];decide) | (simp only [go_sem]<;>(try rw [aa])<;>decide)⟩ (by simp only [go_sem]) (by simp only [go_sem]) (by simp only [go_sem]) (by simp only [go_sem];try omega) ?_
  simp only [go_sem]
  refine ⟨by decide +kernel,?_⟩
  refine ⟨_,_,[100],id,⟨rfl,rfl⟩,?_⟩
  simp only [go_sem]
 ·rw [if_neg hk] at hRd hw
  unfold spO at *
  rw [aP f] at c0
  rw [aP n]
  refine aq Tryz.func188 rfl (by decide +kernel) (by simp [Tryz.ntmps188]) (veil fun E=>?_)
  simp only [go_sem]
  refine aj mixed E fun X=>?_
  simp only [go_sem]
  refine b9 X (d:=8) [100] 0 none [.d (.sl (some 9) (xs.map enD)),.d (i64 5)] (by simp only [go_sem]) rfl rfl ?_
  simp only [go_sem]
  refine ⟨⟨by omega,by omega⟩,?_⟩
  rw [ha]
  first | rw [hga] | rw [Int.toNat_natCast,hga]
  simp only [go_sem]
  refine ⟨by decide +kernel,?_⟩
  refine qf E [5] (.agg [i64 f.k,i64 f.a,i64 f.b,i64 f.c,i64 f.n,.str f.name,.str f.s,.sl (some 3) (f.l.map fD),i64 f.pos]) rfl rfl ?_
  simp only [go_sem]
  refine ab E (c0) rfl rfl (by simp) ?_
  rintro _ rfl
  simp only [go_sem]
  refine aF E (fun h1=>?_) (fun h1=>?_)<;>simp only [go_sem]
  ·rw [bx (by decide)] at hRd
   obtain rfl:w=4:=hw
   subst hRd
   refine ae E _ _ _ c3 rfl rfl ⟨by simp only [go_sem],by first | (rw [aa];decide) | (simp only [go_sem]<;>(try rw [aa])<;>decide)⟩ (by simp only [go_sem]) (by simp only [go_sem]) (by simp only [go_sem]) ?_
   rintro _ _ ⟨rfl,rfl⟩
   refine ⟨by simp only [go_sem];try omega,?_⟩
   simp only [go_sem]
   refine ⟨_,_,[100],id,⟨rfl,rfl⟩,?_⟩
   simp only [go_sem]
  ·have k13:f.k=13:=by simpa using h1
   have hz1:z = -1:=by rw [hz];exact if_neg fun hj=>hk ⟨k13,hj⟩
   rw [decide_eq_true (show z<0 by omega)]
   simp only [go_sem]
   rw [bx (by decide)] at hRd
   obtain rfl:w=4:=hw
   subst hRd
   refine ae E _ _ _ c3 rfl rfl ⟨by simp only [go_sem],by first | (rw [aa];decide) | (simp only [go_sem]<;>(try rw [aa])<;>decide)⟩ (by simp only [go_sem]) (by simp only [go_sem]) (by simp only [go_sem]) ?_
   rintro _ _ ⟨rfl,rfl⟩
   refine ⟨by simp only [go_sem];try omega,?_⟩
   simp only [go_sem]
   refine ⟨_,_,[100],id,⟨rfl,rfl⟩,?_⟩
   simp only [go_sem]
end Go.Proofs.YtejpnabbmgpmaaaGreat

namespace Go.Proofs.YtejpnabbmgpmaaaGreat
open Go.Ab
theorem jq {n:EN} (hw:aA n=0):(oQ n).enc=bp n:=by
 unfold oQ bp
 rw [RT.enc,RT.encs,gj (by rw [hw];exact Nat.zero_le _)]
theorem y4 {G} {n:EN} {ts:List RT} (hn:n.l=[]) (hw:aA n=ts.length) (hg:∀ t∈ts,t.good) (hS:szs ts≤1000000) (hL:ts.length≤1000000) :
  HP Tryz.prog G 86 [ndN n,.sl (some 1) (ts.map fun t=>exD t.enc)] (fun r=>r=.d (exD (RT.mk (can n) ts).enc)):=by
 have:=iL (G:=G) n (RT.encs ts) hn (by rw [gD];exact hL) (by rw [jM];exact hS) (fun l hl m hm=>by
  rw [bu] at hl
  obtain ⟨t,ht,rfl⟩:=List.mem_map.1 hl
  exact (mg t (hg t ht).ok).kids.2 m hm) (fun l hl m hm=>by
  rw [bu] at hl
  obtain ⟨t,ht,rfl⟩:=List.mem_map.1 hl
  have:=fy (bY t (hg t ht).rt m hm).1
  omega)
 rw [bu,List.map_map] at this
 rw [RT.enc,bu,gj (by rw [List.length_map,hw];exact Nat.le_refl _)]
 exact this
set_option maxHeartbeats 1000000 in
theorem Fo {G} {xs:List EN} (h:Run xs) {i:Nat} (hi:i<xs.length) (k10:(ndE xs i).k=10) :
  HCall Tryz.prog G 186 [.at [100] 0,.d (enD (ndE xs i))] (spO xs 5) [100] (fun r hp'=>r=.d (gR (ar (can (ndE xs i)) (ktE xs i)))∧hp'=spO xs (ar (can (ndE xs i)) (ktE xs i)).1):=by
 have ht:=h.t
 have hke:=kX (.inr (.inr (.inr k10)))
 obtain ⟨a,ha,hai⟩:=bB ht hi (k:=(ndE xs i).a) (by rw [hke];simp)
 obtain ⟨b,hb,hbi⟩:=bB ht hi (k:=(ndE xs i).b) (by rw [hke];simp)
 have hga:=aN (show a<xs.length by omega)
 have hgb:=aN (show b<xs.length by omega)
 have hsa:=lE (ht.right a (by omega))
 have hsb:=lE (ht.right b (by omega))
 have e0:(ktE xs i).getD 0 az=trE xs a:=by unfold ktE;rw [hke,ha];rfl
 have e1:(ktE xs i).getD 1 az=trE xs b:=by unfold ktE;rw [hke,hb];rfl
 have hR:ar (can (ndE xs i)) (ktE xs i)=e7 (ndE xs i) (ndE xs a) (ndE xs b):=by
  unfold ar
  rw [ck,if_neg (by omega),if_neg (by omega),if_neg (by omega),if_neg (by omega),if_pos k10]
  simp only [e0,e1]
  rw [iP (by omega),iP (by omega)]
  rfl
 rw [hR]
 clear hR e0 e1
 generalize ndE xs i=n at *
 generalize ndE xs a=f at *
 generalize ndE xs b=g at *
 obtain ⟨q,hq⟩:∃ q,q=e7 n f g:=⟨_,rfl⟩
 obtain ⟨R,hRd⟩:∃ R,R=gR q:=⟨_,rfl⟩
 obtain ⟨w,hw⟩:∃ w,w=q.1:=⟨_,rfl⟩
 rw [← hq,← hRd,← hw]
 unfold e7 at hq
 have c3:=gS (G:=G) xs 5 4
 have c2:=gS (G:=G) xs 5 2
 have c1:=G8 (G:=G) n.n f.n g.n
 unfold gx at c1
 unfold spO at *
 rw [aP n]
 refine aq Tryz.func186 rfl (by decide +kernel) (by simp [Tryz.ntmps186]) (veil fun E=>?_)
 simp only [go_sem]
 refine aj mixed E fun X=>?_
 simp only [go_sem]
 refine b9 X (d:=11) [100] 0 none [.d (.sl (some 9) (xs.map enD)),.d (i64 5)] (by simp only [go_sem]) rfl rfl ?_
 simp only [go_sem]
 refine ⟨⟨by omega,by omega⟩,?_⟩
 rw [ha]
 first | rw [hga] | rw [Int.toNat_natCast,hga]
 simp only [go_sem]
 refine b9 X (d:=20) [100] 0 none [.d (.sl (some 9) (xs.map enD)),.d (i64 5)] (by simp only [go_sem]) rfl rfl ?_
 simp only [go_sem]
 refine ⟨⟨by omega,by omega⟩,?_⟩
 rw [hb]
 first | rw [hgb] | rw [Int.toNat_natCast,hgb]
 simp only [go_sem]
 refine ⟨by decide +kernel,?_⟩
 refine ai E (fun h7=>?_) (fun h7=>?_)<;>simp only [go_sem]
 ·rw [if_pos h7] at hq
  by_cases hk:f.k=3∧g.k=3
  ·rw [if_pos hk] at hq
   have cl:=xC (G:=G) ⟨3,0,0,0,0,[],(f.s++g.s).take 200,[],n.pos⟩ rfl
   subst hq
   rw [cD,jq rfl] at hRd
   obtain rfl:w=5:=hw
   subst hRd
   generalize bp ⟨3,0,0,0,0,[],(f.s++g.s).take 200,[],n.pos⟩=V at *
   unfold ndN at cl
   unfold exD at *
   rw [decide_eq_false (show ¬ ¬ f.k=3 by simp [hk.1])]
   simp only [go_sem]
   rw [decide_eq_false (show ¬ ¬ g.k=3 by simp [hk.2])]
   simp only [go_sem]
   refine ⟨by omega,?_⟩
   refine aj mixed E fun X=>?_
   simp only [go_sem]
   obtain ⟨z,hz⟩:∃ z:Int,z=if 200<((f.s++g.s).length:Int) then 200 else ((f.s++g.s).length:Int):=⟨_,rfl⟩
   rw [← hz]
   have hz0:0≤z∧z≤((f.s++g.s).length:Int):=by rw [hz];split<;>omega
   have hzt:(f.s++g.s).take z.toNat=(f.s++g.s).take 200:=by
    rw [hz]
    split
    ·rfl
    ·rw [List.take_of_length_le (by omega),List.take_of_length_le (by omega)]
   refine ⟨hz0,?_⟩
   rw [Nat.sub_zero,hzt]
   refine aZ X cl rfl rfl (by simp) ?_
   simp only [go_sem]
   refine ⟨by decide +kernel,?_⟩
   refine ⟨_,_,[100],id,⟨rfl,rfl⟩,?_⟩
   simp only [go_sem]
  ·rw [if_neg hk] at hq
   refine aF E (fun h1=>?_) (fun h1=>?_)<;>simp only [go_sem]
   ·subst hq
    rw [bx (by decide)] at hRd
    obtain rfl:w=4:=hw
    subst hRd
    refine ae E _ _ _ c3 rfl rfl ⟨by simp only [go_sem],by first | (rw [aa];decide) | (simp only [go_sem]<;>(try rw [aa])<;>decide)⟩ (by simp only [go_sem]) (by simp only [go_sem]) (by simp only [go_sem]) ?_
    rintro _ _ ⟨rfl,rfl⟩
    refine ⟨by simp only [go_sem];try omega,?_⟩
    simp only [go_sem]
    refine ⟨_,_,[100],id,⟨rfl,rfl⟩,?_⟩
    simp only [go_sem]
   ·have h1:f.k=3:=by simpa using h1
    rw [decide_eq_true (show ¬ g.k=3 from fun e=>hk ⟨h1,e⟩)]
    simp only [go_sem]
    subst hq
    rw [bx (by decide)] at hRd
    obtain rfl:w=4:=hw
    subst hRd
    refine ae E _ _ _ c3 rfl rfl ⟨by simp only [go_sem],by first | (rw [aa];decide) | (simp only [go_sem]<;>(try rw [aa])<;>decide)⟩ (by simp only [go_sem]) (by simp only [go_sem]) (by simp only [go_sem]) ?_
    rintro _ _ ⟨rfl,rfl⟩
    refine ⟨by simp only [go_sem];try omega,?_⟩
    simp only [go_sem]
    refine ⟨_,_,[100],id,⟨rfl,rfl⟩,?_⟩
    simp only [go_sem]
 ·rw [if_neg h7] at hq
  by_cases hk:f.k=1∧g.k=1
  ·rw [if_pos hk] at hq
   rw [decide_eq_false (show ¬ ¬ f.k=1 by simp [hk.1])]
   simp only [go_sem]
   rw [decide_eq_false (show ¬ ¬ g.k=1 by simp [hk.2])]
   simp only [go_sem]
   refine ab E (c1) rfl rfl (by simp) ?_
   rintro _ rfl
   simp only [go_sem]
   refine ai E (fun he=>?_) (fun he=>?_)<;>simp only [go_sem]
   ·rw [if_pos he] at hq
    subst hq
    rw [bx (by decide)] at hRd
    obtain rfl:w=2:=hw
    subst hRd
    refine ae E _ _ _ c2 rfl rfl ⟨by simp only [go_sem],by first | (rw [aa];decide) | (simp only [go_sem]<;>(try rw [aa])<;>decide)⟩ (by simp only [go_sem]) (by simp only [go_sem]) (by simp only [go_sem]) ?_
    rintro _ _ ⟨rfl,rfl⟩
    refine ⟨by simp only [go_sem];try omega,?_⟩
    simp only [go_sem]
    refine ⟨_,_,[100],id,⟨rfl,rfl⟩,?_⟩
    simp only [go_sem]
   have he:iy n.n g.n=0:=by simpa using he
   rw [if_neg (by simp [he])] at hq
   have h56:5≤n.n→n.n=5∨n.n=6:=fun h5=>by
    unfold iy at he
    (repeat' split at he)<;>first | omega | exact absurd he (by decide)
   have cl:=xC (G:=G) ⟨if 5≤n.n then 2 else 1,0,0,0,dD n.n f.n g.n,[],[],[],n.pos⟩ rfl
   by_cases h5:5≤n.n
   ·simp only [if_pos h5] at cl hq
    subst hq
    rw [cD,jq rfl] at hRd
    obtain rfl:w=5:=hw
    subst hRd
    generalize bp ⟨2,0,0,0,dD n.n f.n g.n,[],[],[],n.pos⟩=V at *
    unfold ndN at cl
    unfold exD at *
    refine aF E (fun g5=>?_) (fun g5=>?_)<;>simp only [go_sem]
    ·refine ab E (cl) rfl rfl (by simp) ?_
     rintro _ rfl
     simp only [go_sem]
     refine ⟨_,_,[100],id,⟨rfl,rfl⟩,?_⟩
     simp only [go_sem]
    ·have:=(h56 h5).resolve_left g5
     rw [decide_eq_true this]
     simp only [go_sem]
     refine ab E (cl) rfl rfl (by simp) ?_
     rintro _ rfl
     simp only [go_sem]
     refine ⟨_,_,[100],id,⟨rfl,rfl⟩,?_⟩
     simp only [go_sem]
   ·simp only [if_neg h5] at cl hq
    subst hq
    rw [cD,jq rfl] at hRd
    obtain rfl:w=5:=hw
    subst hRd
    generalize bp ⟨1,0,0,0,dD n.n f.n g.n,[],[],[],n.pos⟩=V at *
    unfold ndN at cl
    unfold exD at *
    rw [decide_eq_false (show ¬ n.n=5 by omega)]
    simp only [go_sem]
    rw [decide_eq_false (show ¬ n.n=6 by omega)]
    simp only [go_sem]
    refine ab E (cl) rfl rfl (by simp) ?_
    rintro _ rfl
    simp only [go_sem]
    refine ⟨_,_,[100],id,⟨rfl,rfl⟩,?_⟩
    simp only [go_sem]
  ·rw [if_neg hk] at hq
   refine aF E (fun h1=>?_) (fun h1=>?_)<;>simp only [go_sem]
   ·subst hq
    rw [bx (by decide)] at hRd
    obtain rfl:w=4:=hw
    subst hRd
    refine ae E _ _ _ c3 rfl rfl ⟨by simp only [go_sem],by first | (rw [aa];decide) | (simp only [go_sem]<;>(try rw [aa])<;>decide)⟩ (by simp only [go_sem]) (by simp only [go_sem]) (by simp only [go_sem]) ?_
    rintro _ _ ⟨rfl,rfl⟩
    refine ⟨by simp only [go_sem];try omega,?_⟩
    simp only [go_sem]
    refine ⟨_,_,[100],id,⟨rfl,rfl⟩,?_⟩
    simp only [go_sem]
   ·have h1:f.k=1:=by simpa using h1
    rw [decide_eq_true (show ¬ g.k=1 from fun e=>hk ⟨h1,e⟩)]
    simp only [go_sem]
    subst hq
    rw [bx (by decide)] at hRd
    obtain rfl:w=4:=hw
    subst hRd
    refine ae E _ _ _ c3 rfl rfl ⟨by simp only [go_sem],by first | (rw [aa];decide) | (simp only [go_sem]<;>(try rw [aa])<;>decide)⟩ (by simp only [go_sem]) (by simp only [go_sem]) (by simp only [go_sem]) ?_
    rintro _ _ ⟨rfl,rfl⟩
    refine ⟨by simp only [go_sem];try omega,?_⟩
    simp only [go_sem]
    refine ⟨_,_,[100],id,⟨rfl,rfl⟩,?_⟩
    simp only [go_sem]
end Go.Proofs.YtejpnabbmgpmaaaGreat

namespace Go.Proofs.YtejpnabbmgpmaaaGreat
open Go.Ab
set_option maxHeartbeats 1000000 in
theorem Ge {G} {xs:List EN} (h:Run xs) {i:Nat} (hi:i<xs.length) (k8:(ndE xs i).k=8) :
  HCall Tryz.prog G 184 [.at [100] 0,.d (enD (ndE xs i))] (spO xs 5) [100] (fun r hp'=>r=.d (gR (ar (can (ndE xs i)) (ktE xs i)))∧hp'=spO xs (ar (can (ndE xs i)) (ktE xs i)).1):=by
 have ht:=h.t
 have hke:=kX (.inr (.inr (.inl k8)))
 obtain ⟨a,ha,hai⟩:=bB ht hi (k:=(ndE xs i).a) (by rw [hke];simp)
 obtain ⟨b,hb,hbi⟩:=bB ht hi (k:=(ndE xs i).b) (by rw [hke];simp)
 have hga:=aN (show a<xs.length by omega)
 have hlk:=ht.link i hi
 have k5:(ndE xs a).k=5:=by
  unfold cI at hlk
  rw [Bool.and_eq_true] at hlk
  have h9:=hlk.2
  simp only [k8,Bool.or_eq_true,decide_eq_true_eq] at h9
  have h9:=h9.resolve_left (by simp)
  rwa [ha,Int.toNat_natCast] at h9
 obtain ⟨c,hc,hca⟩:=bB ht (show a<xs.length by omega) (k:=(ndE xs a).a) (by rw [eY (.inl k5)];simp)
 have ek:(trE xs a).kid 0=trE xs c:=by
  rw [re ht (by omega)]
  unfold ktE
  rw [eY (.inl k5),hc]
  rfl
 have e0:(ktE xs i).getD 0 az=trE xs a:=by unfold ktE;rw [hke,ha];rfl
 have e1:(ktE xs i).getD 1 az=trE xs b:=by unfold ktE;rw [hke,hb];rfl
 have hR:ar (can (ndE xs i)) (ktE xs i)=(5,bW (ndE xs i).name (cG (can (ndE xs i)) (trE xs a)) (trE xs b)):=by
  unfold ar
  rw [ck,if_neg (by omega),if_neg (by omega),if_pos k8]
  simp only [e0,e1]
  rfl
 have ga:=dW ht h.rng (show a<xs.length by omega)
 have gc:=dW ht h.rng (show c<xs.length by omega)
 have la:=iP (ns:=xs) (show a<xs.length by omega)
 obtain ⟨ug,us⟩:=ja (n:=can (ndE xs i)) (f:=trE xs a) (kl (ht.right i hi)) k8 ga (by rw [la];exact k5)
 have sa:=iT h (show a<xs.length by omega)
 have sc:=iT h (show c<xs.length by omega)
 have hun:cG (can (ndE xs i)) (trE xs a)=if (ndE xs a).name=(ndE xs i).name then trE xs a else .mk (can ⟨5,0,0,0,0,(ndE xs a).name,[],[],(ndE xs a).pos⟩) [.mk (can ⟨8,0,0,0,0,(ndE xs i).name,[],[],(ndE xs i).pos⟩) [trE xs a,trE xs c]]:=by
  unfold cG
  rw [la,ek]
  rfl
 rw [hR,cD]
 dsimp only
 clear hR e0 e1 ek hlk
 have c1:=cH (G:=G) ht h.may 5 (show a<xs.length by omega)
 have c2:=cH (G:=G) ht h.may 5 (show b<xs.length by omega)
 have c3:=cH (G:=G) ht h.may 5 (show c<xs.length by omega)
 have c4:=qF (G:=G) h (show b<xs.length by omega) (ndE xs i).name ug (by omega) 5
 rw [← ha,← cT ht (by omega)] at c1
 rw [← hb] at c2
 rw [← hc,← cT ht (by omega)] at c3
 obtain ⟨U,hU⟩:∃ U,U=cG (can (ndE xs i)) (trE xs a):=⟨_,rfl⟩
 rw [← hU] at c4 hun ug us ⊢
 have hgi:=ht.right i hi
 have hgf:=ht.right a (by omega)
 generalize ndE xs i=n at *
 obtain ⟨f,hf⟩:∃ f,f=ndE xs a:=⟨_,rfl⟩
 rw [← hf] at hga hun k5 hgf hc c3
 generalize (bW n.name U (trE xs b)).enc=R at c4 ⊢
 generalize sbE xs b=Y at c2 c4
 generalize trE xs a=A at *
 generalize trE xs c=C at *
 have g1:(RT.mk (can ⟨8,0,0,0,0,n.name,[],[],n.pos⟩) [A,C]).good:=bk.2 ⟨⟨rfl,jT _,(jC (gW hgi (.inr (.inr (.inr (.inl k8))))) (gp hgi) (.inr rfl)).with _⟩,fun t ht=>by
  rcases List.mem_cons.1 ht with rfl | ht
  ·exact ga
  ·rw [List.mem_singleton.1 ht];exact gc⟩
 have d1:=y4 (G:=G) (n:=⟨8,0,0,0,0,n.name,[],[],n.pos⟩) (ts:=[A,C]) rfl rfl (bk.1 g1).2 (by rw [bh,bh];show A.sz+(C.sz+0)≤_;omega) (by simp)
 have s1:(RT.mk (can ⟨8,0,0,0,0,n.name,[],[],n.pos⟩) [A,C]).sz≤1300:=by rw [er,bh,bh];show A.sz+(C.sz+0)+1≤_;omega
 obtain ⟨J,hJ⟩:∃ J,J=RT.mk (can ⟨8,0,0,0,0,n.name,[],[],n.pos⟩) [A,C]:=⟨_,rfl⟩
 rw [← hJ] at d1 g1 s1 hun
 have d2:=y4 (G:=G) (n:=⟨5,0,0,0,0,f.name,[],[],f.pos⟩) (ts:=[J]) rfl rfl (fun t ht=>by rw [List.mem_singleton.1 ht];exact g1) (by rw [bh];show J.sz+0≤_;omega) (by simp)
 simp only [List.map_cons,List.map_nil] at d1 d2
 obtain ⟨V,hV⟩:∃ V,V=(RT.mk (can ⟨5,0,0,0,0,f.name,[],[],f.pos⟩) [J]).enc:=⟨_,rfl⟩
 rw [← hV] at d2
 unfold ndN at d1 d2
 unfold spO at *
 rw [aP n]
 refine ir Tryz.func184 rfl (by decide +kernel) (by simp [Tryz.ntmps184]) fun B0 hB0=>?_
 refine aC (an fun E=>?_)
 simp only [go_sem]
 refine aC (an fun E=>?_)
 simp only [go_sem]
 refine aj mixed E fun X=>?_
 simp only [go_sem]
 refine b9 X (d:=9) [100] 0 none [.d (.sl (some 9) (xs.map enD)),.d (i64 5)] (by simp only [go_sem]) rfl rfl ?_
 simp only [go_sem]
 refine ⟨⟨by omega,by omega⟩,?_⟩
 rw [ha] at c1 ⊢
 first | rw [hga] | rw [Int.toNat_natCast,hga]
 simp only [go_sem]
 refine ⟨by decide +kernel,?_⟩
 refine aC (an fun E=>?_)
 simp only [go_sem]
 unfold exD at c1 c3 c4 d1 d2
 refine ae E _ _ _ c1 rfl rfl ⟨by simp only [go_sem],by first | (rw [aa];decide) | (simp only [go_sem]<;>(try rw [aa])<;>decide)⟩ (by simp only [go_sem]) (by simp only [go_sem]) (by simp only [go_sem]) ?_
 rintro _ _ ⟨rfl,rfl⟩
 refine ⟨by simp only [go_sem];try omega,?_⟩
 simp only [go_sem]
 refine aC (lW [(0,.at [100] 0),(3,.at [3] 0),(4,.at [4] 0),(5,.at [5] 0),(6,.at [6] 0)]
  [([100],.box [.d (.sl (some 9) (xs.map enD)),.d (i64 5)]),([3],.box [.d (i64 n.k),.d (i64 (a:Int)),.d (i64 n.b),.d (i64 n.c),.d (i64 n.n),.d (.str n.name),.d (.str n.s),.d (.sl (some 3) (n.l.map fD)),.d (i64 n.pos)]),([4],.box [.d .nils]),
    ([5],.box [.d (i64 f.k),.d (i64 f.a),.d (i64 f.b),.d (i64 f.c),.d (i64 f.n),.d (.str f.name),.d (.str f.s),.d (.sl (some 3) (f.l.map fD)),.d (i64 f.pos)]),([6],.box [.d (.sl (some 9) (U.enc.map enD))])] [100,3,4,5,6] (fun E=>?_) ?_)
 ·simp only [go_sem]
  by_cases hn:f.name=n.name
  ·rw [if_pos hn] at hun
   rw [show (!(f.name == n.name))=false by simp [hn]]
   simp only [go_sem]
   refine dM id ?_
   rw [hun]
   simp only [go_sem]
   all_goals first | rfl | exact ⟨rfl,rfl⟩
  ·rw [if_neg hn] at hun
   rw [show (!(f.name == n.name))=true by simp [hn]]
   simp only [go_sem]
   refine aj mixed E fun X=>?_
   simp only [go_sem]
   refine bd X _ _ _ _ _ c3 rfl rfl ⟨by simp only [go_sem],by first | (rw [aa];decide) | (simp only [go_sem]<;>(try rw [aa])<;>decide)⟩ (by simp only [go_sem]) (by simp only [go_sem]) (by simp only [go_sem]) (by simp only [go_sem];try omega) ?_
   simp only [go_sem]
   refine cg X 36 [36] (some 1) [.agg [.sl (some 9) (A.enc.map enD)],.agg [.sl (some 9) (C.enc.map enD)]] d1 (fun _=>rfl) rfl rfl rfl (by simp) rfl (by simp only [go_sem]) ?_
   simp only [go_sem]
   refine ⟨by decide +kernel,?_⟩
   refine cV E [44] (some 1) [.agg [.sl (some 9) (J.enc.map enD)]] rfl (by simp only [go_sem];rfl) ?_
   simp only [go_sem]
   refine ab E (d2) rfl rfl (by simp) ?_
   rintro _ rfl
   simp only [go_sem]
   refine dM id ?_
   rw [hun,← hV]
   simp only [go_sem]
   all_goals first | rfl | exact ⟨rfl,rfl⟩
 refine an fun E=>?_
 simp only [go_sem]
 refine aj mixed E fun X=>?_
 simp only [go_sem]
 unfold exD at c2
 refine bd X _ _ _ _ _ c2 rfl rfl ⟨by simp only [go_sem],by first | (rw [aa];decide) | (simp only [go_sem]<;>(try rw [aa])<;>decide)⟩ (by simp only [go_sem]) (by simp only [go_sem]) (by simp only [go_sem]) (by simp only [go_sem];try omega) ?_
 simp only [go_sem]
 refine bd X _ _ _ _ _ c4 rfl rfl ⟨by simp only [go_sem],by first | (rw [aa];decide) | (simp only [go_sem]<;>(try rw [aa])<;>decide)⟩ (by simp only [go_sem]) (by simp only [go_sem]) (by simp only [go_sem]) (by simp only [go_sem];try omega) ?_
 simp only [go_sem]
 refine ⟨by decide +kernel,?_⟩
 refine El (.inl rfl) hB0 ?_
 simp only [go_sem]
 refine ⟨_,_,[100],id,⟨rfl,rfl⟩,?_⟩
 simp only [go_sem]
 rfl
end Go.Proofs.YtejpnabbmgpmaaaGreat

namespace Go.Proofs.YtejpnabbmgpmaaaGreat
open Go.Ab
theorem iO (q:Int × RT):∃ S,gR q=.agg [S]:=by
 unfold gR exD
 split
 ·exact ⟨_,rfl⟩
 ·exact ⟨_,rfl⟩
set_option maxHeartbeats 1000000 in
theorem Fu {G} {xs:List EN} (h:Run xs) {i:Nat} (hi:i<xs.length) :
  HCall Tryz.prog G 125 [.at [100] 0,.d (enD (ndE xs i))] (spO xs 5) [100] (fun r hp'=>r=.d (gR (ar (can (ndE xs i)) (ktE xs i)))∧hp'=spO xs (ar (can (ndE xs i)) (ktE xs i)).1):=by
 by_cases k7:(ndE xs i).k=7
 ·have ht:=h.t
  have hke:=kX (.inr (.inl k7))
  obtain ⟨a,ha,hai⟩:=bB ht hi (k:=(ndE xs i).a) (by rw [hke];simp)
  obtain ⟨b,hb,hbi⟩:=bB ht hi (k:=(ndE xs i).b) (by rw [hke];simp)
  have e0:(ktE xs i).getD 0 az=trE xs a:=by unfold ktE;rw [hke,ha];rfl
  have e1:(ktE xs i).getD 1 az=trE xs b:=by unfold ktE;rw [hke,hb];rfl
  have hR:ar (can (ndE xs i)) (ktE xs i)=(5,bW (ndE xs i).name (trE xs a) (trE xs b)):=by
   unfold ar
   rw [ck,if_neg (by omega),if_pos k7]
   simp only [e0,e1]
   rfl
  rw [hR,cD]
  dsimp only
  clear hR e0 e1
  have c1:=cH (G:=G) ht h.may 5 (show b<xs.length by omega)
  have c2:=cH (G:=G) ht h.may 5 (show a<xs.length by omega)
  have sa:=iT h (show a<xs.length by omega)
  have c3:=qF (G:=G) h (show b<xs.length by omega) (ndE xs i).name (dW ht h.rng (show a<xs.length by omega)) (by omega) 5
  rw [cT ht (by omega)] at c3
  rw [← hb] at c1
  rw [← ha] at c2
  generalize (bW (ndE xs i).name (trE xs a) (trE xs b)).enc=R at *
  generalize ndE xs i=n at *
  generalize sbE xs a=Y at *
  generalize sbE xs b=Z at *
  unfold exD spO at *
  rw [aP n]
  refine aq Tryz.func125 rfl (by decide +kernel) (by simp [Tryz.ntmps125]) (veil fun E=>?_)
  simp only [go_sem]
  rw [k7]
  simp only [go_sem]
  refine aj mixed E fun X=>?_
  simp only [go_sem]
  refine bd X _ _ _ _ _ c1 rfl rfl ⟨by simp only [go_sem],by first | (rw [aa];decide) | (simp only [go_sem]<;>(try rw [aa])<;>decide)⟩ (by simp only [go_sem]) (by simp only [go_sem]) (by simp only [go_sem]) (by simp only [go_sem];try omega) ?_
  simp only [go_sem]
  refine bd X _ _ _ _ _ c2 rfl rfl ⟨by simp only [go_sem],by first | (rw [aa];decide) | (simp only [go_sem]<;>(try rw [aa])<;>decide)⟩ (by simp only [go_sem]) (by simp only [go_sem]) (by simp only [go_sem]) (by simp only [go_sem];try omega) ?_
  simp only [go_sem]
  refine bd X _ _ _ _ _ c3 rfl rfl ⟨by simp only [go_sem],by first | (rw [aa];decide) | (simp only [go_sem]<;>(try rw [aa])<;>decide)⟩ (by simp only [go_sem]) (by simp only [go_sem]) (by simp only [go_sem]) (by simp only [go_sem];try omega) ?_
  simp only [go_sem]
  refine ⟨by decide +kernel,?_⟩
  refine ⟨_,_,[100],id,⟨rfl,rfl⟩,?_⟩
  simp only [go_sem]
 have k6:=Ga (G:=G) h hi
 have k8:=Ge (G:=G) h hi
 have k9:=F3 (G:=G) h hi
 have k10:=Fo (G:=G) h hi
 have k12:=Gr (G:=G) h hi
 have k14:=Ff (G:=G) h hi
 have c4:=gS (G:=G) xs 5 4
 have hno:(ndE xs i).k≠6→(ndE xs i).k≠8→(ndE xs i).k≠9→(ndE xs i).k≠10→(ndE xs i).k≠12→(ndE xs i).k≠14→ar (can (ndE xs i)) (ktE xs i)=(4,az):=fun h6 h8 h9 h10 h12 h14=>by
  unfold ar
  rw [ck,if_neg h6,if_neg k7,if_neg h8,if_neg h9,if_neg h10,if_neg h12,if_neg h14]
 generalize ar (can (ndE xs i)) (ktE xs i)=q at *
 obtain ⟨R,hR⟩:=iO q
 rw [hR] at k6 k8 k9 k10 k12 k14 ⊢
 obtain ⟨w,hw⟩:∃ w,w=q.1:=⟨_,rfl⟩
 rw [← hw] at k6 k8 k9 k10 k12 k14 ⊢
 generalize ndE xs i=n at *
 unfold spO at *
 rw [aP n] at k6 k8 k9 k10 k12 k14 ⊢
 refine aq Tryz.func125 rfl (by decide +kernel) (by simp [Tryz.ntmps125]) (veil fun E=>?_)
 simp only [go_sem]
 refine ai E (fun g6=>?_) (fun g6=>?_)<;>simp only [go_sem]
 ·refine ae E _ _ _ (k6 g6) rfl rfl ⟨by simp only [go_sem],by first | (rw [aa];decide) | (simp only [go_sem]<;>(try rw [aa])<;>decide)⟩ (by simp only [go_sem]) (by simp only [go_sem]) (by simp only [go_sem]) ?_
  rintro _ _ ⟨rfl,rfl⟩
  refine ⟨by simp only [go_sem];try omega,?_⟩
  simp only [go_sem]
  refine ⟨_,_,[100],id,⟨rfl,rfl⟩,?_⟩
  simp only [go_sem]
 rw [decide_eq_false k7]
 simp only [go_sem]
 refine ai E (fun g8=>?_) (fun g8=>?_)<;>simp only [go_sem]
 ·refine ae E _ _ _ (k8 g8) rfl rfl ⟨by simp only [go_sem],by first | (rw [aa];decide) | (simp only [go_sem]<;>(try rw [aa])<;>decide)⟩ (by simp only [go_sem]) (by simp only [go_sem]) (by simp only [go_sem]) ?_
  rintro _ _ ⟨rfl,rfl⟩
  refine ⟨by simp only [go_sem];try omega,?_⟩
  simp only [go_sem]
  refine ⟨_,_,[100],id,⟨rfl,rfl⟩,?_⟩
  simp only [go_sem]
 refine ai E (fun g9=>?_) (fun g9=>?_)<;>simp only [go_sem]
 ·refine ae E _ _ _ (k9 g9) rfl rfl ⟨by simp only [go_sem],by first | (rw [aa];decide) | (simp only [go_sem]<;>(try rw [aa])<;>decide)⟩ (by simp only [go_sem]) (by simp only [go_sem]) (by simp only [go_sem]) ?_
  rintro _ _ ⟨rfl,rfl⟩
  refine ⟨by simp only [go_sem];try omega,?_⟩
  simp only [go_sem]
  refine ⟨_,_,[100],id,⟨rfl,rfl⟩,?_⟩
  simp only [go_sem]
 refine ai E (fun g10=>?_) (fun g10=>?_)<;>simp only [go_sem]
 ·refine ae E _ _ _ (k10 g10) rfl rfl ⟨by simp only [go_sem],by first | (rw [aa];decide) | (simp only [go_sem]<;>(try rw [aa])<;>decide)⟩ (by simp only [go_sem]) (by simp only [go_sem]) (by simp only [go_sem]) ?_
  rintro _ _ ⟨rfl,rfl⟩
  refine ⟨by simp only [go_sem];try omega,?_⟩
  simp only [go_sem]
  refine ⟨_,_,[100],id,⟨rfl,rfl⟩,?_⟩
  simp only [go_sem]
 refine ai E (fun g12=>?_) (fun g12=>?_)<;>simp only [go_sem]
 ·refine ae E _ _ _ (k12 g12) rfl rfl ⟨by simp only [go_sem],by first | (rw [aa];decide) | (simp only [go_sem]<;>(try rw [aa])<;>decide)⟩ (by simp only [go_sem]) (by simp only [go_sem]) (by simp only [go_sem]) ?_
  rintro _ _ ⟨rfl,rfl⟩
  refine ⟨by simp only [go_sem];try omega,?_⟩
  simp only [go_sem]
  refine ⟨_,_,[100],id,⟨rfl,rfl⟩,?_⟩
  simp only [go_sem]
 refine ai E (fun g14=>?_) (fun g14=>?_)<;>simp only [go_sem]
 ·refine ae E _ _ _ (k14 g14) rfl rfl ⟨by simp only [go_sem],by first | (rw [aa];decide) | (simp only [go_sem]<;>(try rw [aa])<;>decide)⟩ (by simp only [go_sem]) (by simp only [go_sem]) (by simp only [go_sem]) ?_
  rintro _ _ ⟨rfl,rfl⟩
  refine ⟨by simp only [go_sem];try omega,?_⟩
  simp only [go_sem]
  refine ⟨_,_,[100],id,⟨rfl,rfl⟩,?_⟩
  simp only [go_sem]
 have hq:=hno g6 g8 g9 g10 g12 g14
 subst hq
 obtain rfl:w=4:=hw
 rw [bx (by decide)] at hR
 obtain rfl:D.nils=R:=by injection hR with hR;injection hR
 refine ae E _ _ _ c4 rfl rfl ⟨by simp only [go_sem],by first | (rw [aa];decide) | (simp only [go_sem]<;>(try rw [aa])<;>decide)⟩ (by simp only [go_sem]) (by simp only [go_sem]) (by simp only [go_sem]) ?_
 rintro _ _ ⟨rfl,rfl⟩
 refine ⟨by simp only [go_sem];try omega,?_⟩
 simp only [go_sem]
 refine ⟨_,_,[100],id,⟨rfl,rfl⟩,?_⟩
 simp only [go_sem]
theorem nQ (n:EN):∀ (k:Nat) (ts:List RT),(∀ j,j<ts.length→fI n (k+j)=true→b7 (ts.getD j az)=true)→mS n k ts=none
 | _,[],_=>by rw [mS]
 | k,t::r,h=>by
   have h0:=h 0 (by simp)
   rw [mS,if_neg (by
    simp only [Bool.and_eq_true,Bool.not_eq_true']
    rintro ⟨h1,h2⟩
    have:=h0 h1
    simp at this
    rw [this] at h2
    cases h2),nQ n (k+1) r fun j hj hf=>by
    have:=h (j+1) (by simpa using hj) (by rw [← hf];congr 1;omega)
    simpa using this]
   rfl
theorem oY (n:EN):∀ (k:Nat) (ts:List RT) (j:Nat),j<ts.length→fI n (k+j)=true→b7 (ts.getD j az)=false→(∀ j',j' < j→fI n (k+j')=true→b7 (ts.getD j' az)=true) →
  mS n k ts=some ((stT (ts.getD j az)).1,ts.set j (stT (ts.getD j az)).2)
 | _,[],_,h,_,_,_=>absurd h (Nat.not_lt_zero _)
 | k,t::r,0,_,hf,hv,_=>by
   have hv:b7 t=false:=by simpa using hv
   rw [mS,if_pos (by rw [show fI n k=true from hf,hv];rfl)]
   rfl
 | k,t::r,j+1,hj,hf,hv,ha=>by
   have h0:=ha 0 (by omega)
   rw [mS,if_neg (by
    simp only [Bool.and_eq_true,Bool.not_eq_true']
    rintro ⟨h1,h2⟩
    have:=h0 h1
    simp at this
    rw [this] at h2
    cases h2),oY n (k+1) r j (by simpa using hj) (by rw [← hf];congr 1;omega) (by simpa using hv) fun j' hj' hf'=>by
    have:=ha (j'+1) (by omega) (by rw [← hf'];congr 1;omega)
    simpa using this]
   rfl
end Go.Proofs.YtejpnabbmgpmaaaGreat

