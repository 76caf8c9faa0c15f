/-
  A cluster's state: the builder's walk. (with the parts that follow it)
-/
import Derived.Test.YthfodompfpdmgaaGreatDoorSOI
import Derived.Test.YthfodompfpdmgaaGreatDoorSOH
import Derived.Test.YthfodompfpdmgaaGreatDoorSOF
import Derived.Test.YthfodompfpdmgaaGreatDoorSOG
import Derived.Sort.Walk0
set_option linter.all false
namespace Go.Proofs.YthfodompfpdmgaaGreatDoor
open Go.Ab
variable {t:TypeId} {fz:Nat × Nat}
def aB (ns:List TN) (k:Int) (c:Clu):Bool:=decide (0<((aw ns k c.2.2).length:Int))
noncomputable def cG (ns:List TN) (c:Clu) (W:List Clu):(Nat × Nat) × List Clu:=if aB ns 6 c then fB ns c.1 (aw ns 6 c.2.2) W else ((0,0),W)
noncomputable def bg (ns:List TN) (c:Clu) (k:Int) (wh:Bool) (W:List Clu):List Fld × List Clu:=if aB ns k c then fR ns c.1 wh (aw ns k c.2.2) W else ([],W)
structure qK (ns:List TN) (c:Clu):Prop where
 len:c.2.2.length≤2000
 ok:∀ x∈c.2.2,okP ns x
 fn:∀ x∈c.2.2,kdI ns x=6→okP ns (nd ns x.toNat).a∧okP ns (nd ns x.toNat).b
 fd:∀ x∈c.2.2,(nd ns x.toNat).l.length≤1000∧∀ q∈(nd ns x.toNat).l,q.1.length≤1000000∧okP ns q.2
theorem aq {ns:List TN} {k:Int} {l:List Int} {x:Int} (h:x∈aw ns k l):x∈l∧kdI ns x=k:=by
 have:=List.mem_filter.1 h
 exact ⟨this.1,by simpa using this.2⟩
theorem bd (ns:List TN) (k:Int) (l:List Int):(aw ns k l).length≤l.length:=List.length_filter_le _ _
noncomputable def bV (ns:List TN) (c:Clu) (W:List Clu):EA × List Clu :=
 (⟨c.1,c.2.1,aB ns 3 c,aB ns 4 c,aB ns 5 c,aB ns 6 c,aB ns 7 c,aB ns 8 c,gj ns (aw ns 11 c.2.2),((cG ns c W).1.1:Nat),((cG ns c W).1.2:Nat),(bg ns c 7 c.1 (cG ns c W).2).1,(bg ns c 8 (!c.1) (bg ns c 7 c.1 (cG ns c W).2).2).1⟩,
   (bg ns c 8 (!c.1) (bg ns c 7 c.1 (cG ns c W).2).2).2)
theorem AE (ns:List TN) (p wh:Bool) (l:List Int) (W:List Clu) (h:∀ x∈l,(nd ns x.toNat).l.length≤1000∧∀ q∈(nd ns x.toNat).l,True∧True):(fR ns p wh l W).2.length≤W.length+l.length*1000:=by
 have key:∀ (S:List (List UInt8)) (F:FT) (s:List Fld × List Clu),(S.foldl (mw ns p wh l.length F) s).2.length≤s.2.length+S.length:=by
  intro S F
  induction S with
  | nil=>intro s;exact Nat.le_refl _
  | cons k r ih =>
    intro s
    have h1:=ih (mw ns p wh l.length F s k)
    have h2:=(zN (ns:=ns) (p:=p) (wh:=wh) (n:=l.length) (F:=F) (s:=s) (k:=k)).2
    rw [List.foldl_cons,List.length_cons]
    omega
 have h1:=key (jh ((gy ns l).map (·.1))) (gy ns l) ([],W)
 have h2:=(pY (P:=fun _=>True) (R:=fun _=>True) h).ln
 rw [jh,List.length_mergeSort,List.length_map] at h1
 unfold fR sh
 simp only at h1
 exact Nat.le_trans h1 (by omega)
theorem rO (ns:List TN) (p:Bool) (l:List Int) (W:List Clu):(fB ns p l W).2.length≤W.length+2:=by
 unfold fB
 exact Nat.le_trans (cx _ _) (by have:=cx W (ofC ns (!p) (l.map fun x=>(nd ns x.toNat).a));omega)
theorem rV (ns:List TN) (c:Clu) (W:List Clu):(cG ns c W).2.length≤W.length+2:=by
 unfold cG
 split
 ·exact rO _ _ _ _
 ·exact Nat.le_add_right _ _
theorem jY {ns:List TN} {c:Clu} (h:qK ns c) (k:Int) (wh:Bool) (W:List Clu):(bg ns c k wh W).2.length≤W.length+2000000:=by
 unfold bg
 split
 ·have h1:=AE ns c.1 wh (aw ns k c.2.2) W fun x hx=>⟨(h.fd x (aq hx).1).1,fun _ _=>⟨trivial,trivial⟩⟩
  have h2:=bd ns k c.2.2
  have h3:=h.len
  omega
 ·exact Nat.le_add_right _ _
def stV (s:EA):AV:=.agg [.d (.bool s.plus),.d (.bool s.al),.d (.bool s.int),.d (.bool s.bool),.d (.bool s.str),.d (.bool s.arr),.d (.bool s.rc),.d (.bool s.tg),.d (.sl none (s.vars.map i64)),.d (i64 s.dom),.d (i64 s.cod),.d (.sl (some 2) (s.fl.map aG)),.vw [7] 0 s.tl.length]
def snF (r1 r2:Nat) (c:Clu):List (Nat × AV):=[(0,.bx [0] 0),(3,.bx [3] 0),(4,.bx [4] 0),(5,.bx [5] 0),(r1,.bx [0] 0),(r2,.d (.agg [.bool c.1,.bool c.2.1,.sl none (c.2.2.map i64)]))]
def snP (ns:List TN) (root:Int) (W:List Clu) (fl:Bool) (a:Nat) (c:Clu) (b3 b4 b5 b6 b7 b8:Bool) (V:List Int) (dm cd:Int) (R:List Fld):List (Name × Ob) :=
 [([0],.box [.d (.sl (some 4) (ns.map ah)),.d (i64 root),.mp [1],.vw [a] 0 W.length,.d (.bool fl)]),([1],.map (menc (fun l:List UInt8=>D.str l) (atM 0 W))),([a],.arr (some 3) (W.map cH)),([3],.box [.d (.bool c.1),.d (.bool c.2.1),.d (.sl none (c.2.2.map i64))]),
   ([4],.box [.d (.bool false),.d (.bool false),.d (.bool false),.d (.bool false),.d (.bool false),.d (.bool false),.d (.bool false),.d (.bool false),.d .nils,.d (i64 0),.d (i64 0),.d .nils,.d .nils]),
   ([5],.box [.d (.bool c.1),.d (.bool c.2.1),.d (.bool b3),.d (.bool b4),.d (.bool b5),.d (.bool b6),.d (.bool b7),.d (.bool b8),.d (.sl none (V.map i64)),.d (i64 dm),.d (i64 cd),.d (.sl (some 2) (R.map aG)),.vw [96] 0 0]),([96],.arr (some 2) [])]
set_option maxHeartbeats 8000000 in
theorem BT (ns:List TN) (root:Int) (W:List Clu) (fl:Bool) (c:Clu) (h:Inn ns) (hfl:∀ n∈ns,n.l.length≤1000) (hkd:qK ns c) (hW:W.length≤100000) :
  HCall Tryz.prog (GT t fz) 26 [.bx [0] 0,.d (cH c)] (bO ns root W fl 2) [0,1,2] (fun r hp'=>r=stV (bV ns c W).1∧hp'=bO ns root (bV ns c W).2 ((fl || decide (30<(bV ns c W).1.fl.length)) || decide (30<(bV ns c W).1.tl.length)) 6++[([7],.arr (some 2) ((bV ns c W).1.tl.map aG))]):=by
 generalize hR:bV ns c W=RR
 unfold bV at hR
 have hk:=hkd.ok
 have hcl:c.2.2.length≤1000000:=Nat.le_trans hkd.len (by decide)
 unfold bO
 have hcd:cH c=.agg [.bool c.1,.bool c.2.1,.sl none (c.2.2.map i64)]:=rfl
 rw [hcd]
 refine aL Tryz.func26 rfl (by decide +kernel) (by simp [Tryz.ntmps26]) (veil fun E=>?_)
 simp only [go_sem]
 refine kc E [5] 8 98 none [.d (.bool c.1),.d (.bool c.2.1),.d (.bool false),.d (.bool false),.d (.bool false),.d (.bool false),.d (.bool false),.d (.bool false),.d .nils,.d (i64 0),.d (i64 0),.d .nils,.d .nils] rfl rfl (by rw [aa];decide) rfl ?_
 refine kc E [5] 11 97 (some 2) [.d (.bool c.1),.d (.bool c.2.1),.d (.bool false),.d (.bool false),.d (.bool false),.d (.bool false),.d (.bool false),.d (.bool false),.vw [98] 0 0,.d (i64 0),.d (i64 0),.d .nils,.d .nils] rfl rfl (by show ¬ _∈[98,5,4,3,0,1,2];decide) rfl ?_
 refine kc E [5] 12 96 (some 2) [.d (.bool c.1),.d (.bool c.2.1),.d (.bool false),.d (.bool false),.d (.bool false),.d (.bool false),.d (.bool false),.d (.bool false),.vw [98] 0 0,.d (i64 0),.d (i64 0),.vw [97] 0 0,.d .nils] rfl rfl (by show ¬ _∈[97,98,5,4,3,0,1,2];decide) rfl ?_
 refine bt E [98] none [] rfl rfl ?_
 refine bt E [97] (some 2) [] rfl rfl ?_
 refine kX E (τ:=id) (s2:=mk [(0,.bx [0] 0),(3,.bx [3] 0),(4,.bx [4] 0),(5,.bx [5] 0),(14,.bx [0] 0),(15,.d (.agg [.bool c.1,.bool c.2.1,.sl none (c.2.2.map i64)]))]
  [([0],.box [.d (.sl (some 4) (ns.map ah)),.d (i64 root),.mp [1],.vw [2] 0 W.length,.d (.bool fl)]),([1],.map (menc (fun l:List UInt8=>D.str l) (atM 0 W))),([2],.arr (some 3) (W.map cH)),([3],.box [.d (.bool c.1),.d (.bool c.2.1),.d (.sl none (c.2.2.map i64))]),
    ([4],.box [.d (.bool false),.d (.bool false),.d (.bool false),.d (.bool false),.d (.bool false),.d (.bool false),.d (.bool false),.d (.bool false),.d .nils,.d (i64 0),.d (i64 0),.d .nils,.d .nils]),
    ([5],.box [.d (.bool c.1),.d (.bool c.2.1),.d (.bool false),.d (.bool false),.d (.bool false),.d (.bool false),.d (.bool false),.d (.bool false),.d (.sl none []),.d (i64 0),.d (i64 0),.d (.sl (some 2) []),.vw [96] 0 0]),([96],.arr (some 2) [])] [96,5,4,3,0,1,2]) (LeL.le ?_) ?_
 ·simp only [go_sem]
  all_goals first | rfl | ((repeat' apply And.intro)<;>first | rfl | trivial)
 refine bA E [.U [0] [.sl (some 4) (ns.map ah),i64 root,.unk,.unk,.unk],.B [0] (bD ns root)] [.ptr (bD ns root),.agg [.bool c.1,.bool c.2.1,.sl none (c.2.2.map i64)],i64 3] (eA (G:=GT t fz) ns root 3 h c hcl hk) ?_ ?_ rfl ?_ ⟨by simp only [go_sem],by first | (rw [aa];decide) | (simp only [go_sem]<;>(try rw [aa])<;>decide)⟩ ?_
 ·rintro r hp' ⟨zs,rfl,rfl,_,hzf⟩
  exact ⟨rfl,by simp [bT,Ob.flat,hzf]⟩
 ·unfold bD
  simp only [go_sem]
  refine ⟨_,rfl,?_⟩
  simp only [go_sem]
  first | exact .inr trivial | skip
 ·unfold bD
  simp only [go_sem]
 rintro _ _ ⟨z3,rfl,rfl,h3,f3⟩
 simp only [go_sem]
 refine bA E [.U [0] [.sl (some 4) (ns.map ah),i64 root,.unk,.unk,.unk],.B [0] (bD ns root)] [.ptr (bD ns root),.agg [.bool c.1,.bool c.2.1,.sl none (c.2.2.map i64)],i64 4] (eA (G:=GT t fz) ns root 4 h c hcl hk) ?_ ?_ rfl ?_ ⟨by simp only [go_sem],by first | (rw [aa];decide) | (simp only [go_sem]<;>(try rw [aa])<;>decide)⟩ ?_
 ·rintro r hp' ⟨zs,rfl,rfl,_,hzf⟩
  exact ⟨rfl,by simp [bT,Ob.flat,hzf]⟩
 ·unfold bD
  simp only [go_sem]
  refine ⟨_,rfl,?_⟩
  simp only [go_sem]
  first | exact .inr trivial | skip
 ·unfold bD
  simp only [go_sem]
 rintro _ _ ⟨z4,rfl,rfl,h4,f4⟩
 simp only [go_sem]
 refine bA E [.U [0] [.sl (some 4) (ns.map ah),i64 root,.unk,.unk,.unk],.B [0] (bD ns root)] [.ptr (bD ns root),.agg [.bool c.1,.bool c.2.1,.sl none (c.2.2.map i64)],i64 5] (eA (G:=GT t fz) ns root 5 h c hcl hk) ?_ ?_ rfl ?_ ⟨by simp only [go_sem],by first | (rw [aa];decide) | (simp only [go_sem]<;>(try rw [aa])<;>decide)⟩ ?_
 ·rintro r hp' ⟨zs,rfl,rfl,_,hzf⟩
  exact ⟨rfl,by simp [bT,Ob.flat,hzf]⟩
 ·unfold bD
  simp only [go_sem]
  refine ⟨_,rfl,?_⟩
  simp only [go_sem]
  first | exact .inr trivial | skip
 ·unfold bD
  simp only [go_sem]
 rintro _ _ ⟨z5,rfl,rfl,h5,f5⟩
 simp only [go_sem]
 refine bA E [.U [0] [.sl (some 4) (ns.map ah),i64 root,.unk,.unk,.unk],.B [0] (bD ns root)] [.ptr (bD ns root),.agg [.bool c.1,.bool c.2.1,.sl none (c.2.2.map i64)],i64 11] (eA (G:=GT t fz) ns root 11 h c hcl hk) ?_ ?_ rfl ?_ ⟨by simp only [go_sem],by first | (rw [aa];decide) | (simp only [go_sem]<;>(try rw [aa])<;>decide)⟩ ?_
 ·rintro r hp' ⟨zs,rfl,rfl,_,hzf⟩
  exact ⟨rfl,by simp [bT,Ob.flat,hzf]⟩
 ·unfold bD
  simp only [go_sem]
  refine ⟨_,rfl,?_⟩
  simp only [go_sem]
  first | exact .inr trivial | skip
 ·unfold bD
  simp only [go_sem]
 rintro _ _ ⟨z11,rfl,rfl,h11,f11⟩
 simp only [go_sem]
 have hk11:∀ x∈aw ns 11 c.2.2,okP ns x:=fun x hx=>hk x (List.mem_filter.1 hx).1
 have hl11:(aw ns 11 c.2.2).length≤1000000:=Nat.le_trans (List.length_filter_le _ _) hcl
 have cv:=F7 (G:=GT t fz) ns root h (aw ns 11 c.2.2) hl11 hk11
 unfold aj at cv
 refine bA E [.A [35,0] none z11,.U [0] [.sl (some 4) (ns.map ah),i64 root,.unk,.unk,.unk],.B [0] (bD ns root)] [.ptr (bD ns root),.sl none ((aw ns 11 c.2.2).map i64)] cv ?_ ?_ rfl ?_ ⟨by simp only [go_sem],by first | (rw [aa];decide) | (simp only [go_sem]<;>(try rw [aa])<;>decide)⟩ ?_
 ·rintro r hp' ⟨zs,rfl,rfl,_,hzf⟩
  exact ⟨rfl,by simp [bT,Ob.flat,hzf]⟩
 ·unfold bD
  simp only [go_sem]
  refine ⟨_,rfl,?_⟩
  simp only [go_sem]
  first | exact .inr trivial | skip
 ·unfold bD
  simp only [go_sem]
  rw [h11]
 rintro _ _ ⟨zv,rfl,rfl,hv,fv⟩
 simp only [go_sem]
 generalize hV:gj ns (aw ns 11 c.2.2)=V at hv ⊢
 refine bt E [36,0] none zv rfl rfl ?_
 generalize hb3:decide (0<((aw ns 3 c.2.2).length:Int))=b3
 generalize hb4:decide (0<((aw ns 4 c.2.2).length:Int))=b4
 generalize hb5:decide (0<((aw ns 5 c.2.2).length:Int))=b5
 refine kX E (τ:=tau [([95],[2])]) (s2:=mk (snF 38 39 c)
  (snP ns root W fl 95 c b3 b4 b5 false false false V 0 0 [])
  [96,5,4,3,0,1,2,95]) (LeL.le ?_) ?_
 ·unfold snF snP
  simp only [go_sem]
  rw [hv]
  all_goals first | rfl | ((repeat' apply And.intro)<;>first | rfl | trivial)
 unfold snF snP
 refine bA E [.U [0] [.sl (some 4) (ns.map ah),i64 root,.unk,.unk,.unk],.B [0] (bD ns root)] [.ptr (bD ns root),.agg [.bool c.1,.bool c.2.1,.sl none (c.2.2.map i64)],i64 6] (eA (G:=GT t fz) ns root 6 h c hcl hk) ?_ ?_ rfl ?_ ⟨by simp only [go_sem],by first | (rw [aa];decide) | (simp only [go_sem]<;>(try rw [aa])<;>decide)⟩ ?_
 ·rintro r hp' ⟨zs,rfl,rfl,_,hzf⟩
  exact ⟨rfl,by simp [bT,Ob.flat,hzf]⟩
 ·unfold bD
  simp only [go_sem]
  refine ⟨_,rfl,?_⟩
  simp only [go_sem]
  first | exact .inr trivial | skip
 ·unfold bD
  simp only [go_sem]
 rintro _ _ ⟨z6,rfl,rfl,h6,f6⟩
 simp only [go_sem]
 obtain ⟨A,hA⟩:∃ A,A=cG ns c W:=⟨_,rfl⟩
 have ca:=EI (t:=t) (fz:=fz) ns root W fl c.1 (aw ns 6 c.2.2) h (Nat.le_trans (bd _ _ _) hkd.len) (fun x hx=>hk x (aq hx).1) (fun x hx=>(hkd.fn x (aq hx).1 (aq hx).2).1) (fun x hx=>(hkd.fn x (aq hx).1 (aq hx).2).2) (by omega)
 have la:=rO ns c.1 (aw ns 6 c.2.2) W
 unfold bO aj at ca
 refine ai E (fun g=>?_) (fun g=>?_)<;>simp only [go_sem]
 ·have hb6:aB ns 6 c=true:=decide_eq_true g
  have hAy:A=fB ns c.1 (aw ns 6 c.2.2) W:=by rw [hA,cG,if_pos hb6]
  rw [← hAy] at ca la
  refine bt E [40,0] none z6 rfl rfl ?_
  refine aM E (tau [([2],[95])]) _ _ _ ca rfl (by simp only [go_sem];rw [h6]) ⟨by simp only [go_sem],by first | (rw [aa];decide) | (simp only [go_sem]<;>(try rw [aa])<;>decide)⟩ rfl (by simp only [go_sem]) (by simp only [go_sem]) ?_
  rintro _ _ ⟨rfl,rfl⟩
  refine ⟨by simp only [go_sem];try simp,?_⟩
  simp only [go_sem]
  refine kX E (τ:=tau [([94],[50,6])]) (s2:=mk (snF 55 56 c) (snP ns root A.2 fl 94 c b3 b4 b5 true false false V A.1.1 A.1.2 []) [96,5,4,3,0,1,2,94]) (LeL.le ?_) ?_
  ·unfold snF snP
   simp only [go_sem]
   all_goals first | rfl | ((repeat' apply And.intro)<;>first | rfl | trivial)
  unfold snF snP
  have lA:A.2.length≤W.length+2:=by rw [hA];exact rV _ _ _
  obtain ⟨R7,hR7⟩:∃ R,R=bg ns c 7 c.1 A.2:=⟨_,rfl⟩
  have cb:=kB (t:=t) (fz:=fz) ns root A.2 fl c.1 c.1 (aw ns 7 c.2.2) h hfl (Nat.le_trans (bd _ _ _) hkd.len) (fun x hx=>hk x (aq hx).1) (fun x hx=>hkd.fd x (aq hx).1) (by omega)
  unfold bO aj at cb
  refine bA E [.U [0] [.sl (some 4) (ns.map ah),i64 root,.unk,.unk,.unk],.B [0] (bD ns root)] [.ptr (bD ns root),.agg [.bool c.1,.bool c.2.1,.sl none (c.2.2.map i64)],i64 7] (eA (G:=GT t fz) ns root 7 h c hcl hk) ?_ ?_ rfl ?_ ⟨by simp only [go_sem],by first | (rw [aa];decide) | (simp only [go_sem]<;>(try rw [aa])<;>decide)⟩ ?_
  ·rintro r hp' ⟨zs,rfl,rfl,_,hzf⟩
   exact ⟨rfl,by simp [bT,Ob.flat,hzf]⟩
  ·unfold bD
   simp only [go_sem]
   refine ⟨_,rfl,?_⟩
   simp only [go_sem]
   first | exact .inr trivial | skip
  ·unfold bD
   simp only [go_sem]
  rintro _ _ ⟨z7,rfl,rfl,h7,f7⟩
  simp only [go_sem]
  refine ai E (fun g=>?_) (fun g=>?_)<;>simp only [go_sem]
  ·have hb7:aB ns 7 c=true:=decide_eq_true g
   have hAy:R7=fR ns c.1 c.1 (aw ns 7 c.2.2) A.2:=by rw [hR7,bg,if_pos hb7]
   rw [← hAy] at cb
   refine bt E [57,0] none z7 rfl rfl ?_
   refine aM E (tau [([2],[94])]) _ _ _ cb rfl (by simp only [go_sem];rw [h7]) ⟨by simp only [go_sem],by first | (rw [aa];decide) | (simp only [go_sem]<;>(try rw [aa])<;>decide)⟩ rfl (by simp only [go_sem]) (by simp only [go_sem]) ?_
   rintro _ _ ⟨rfl,rfl⟩
   refine ⟨by simp only [go_sem];try simp,?_⟩
   simp only [go_sem]
   refine bt E [68,7] (some 2) (R7.1.map aG) rfl rfl ?_
   refine kX E (τ:=tau [([93],[68,6])]) (s2:=mk (snF 70 71 c) (snP ns root R7.2 (fl || decide (30<R7.1.length)) 93 c b3 b4 b5 true true false V A.1.1 A.1.2 R7.1) [96,5,4,3,0,1,2,93]) (LeL.le ?_) ?_
   ·unfold snF snP
    simp only [go_sem]
    all_goals first | rfl | ((repeat' apply And.intro)<;>first | rfl | trivial)
   unfold snF snP
   have l7:R7.2.length≤A.2.length+2000000:=by rw [hR7];exact jY hkd _ _ _
   obtain ⟨R8,hR8⟩:∃ R,R=bg ns c 8 (!c.1) R7.2:=⟨_,rfl⟩
   have cc:=kB (t:=t) (fz:=fz) ns root R7.2 (fl || decide (30<R7.1.length)) c.1 (!c.1) (aw ns 8 c.2.2) h hfl (Nat.le_trans (bd _ _ _) hkd.len) (fun x hx=>hk x (aq hx).1) (fun x hx=>hkd.fd x (aq hx).1) (by omega)
   unfold bO aj at cc
   rw [← hA,← hR7,← hR8,hb6,hb7,hV,show aB ns 3 c=b3 from hb3,show aB ns 4 c=b4 from hb4,show aB ns 5 c=b5 from hb5] at hR
   refine bA E [.U [0] [.sl (some 4) (ns.map ah),i64 root,.unk,.unk,.unk],.B [0] (bD ns root)] [.ptr (bD ns root),.agg [.bool c.1,.bool c.2.1,.sl none (c.2.2.map i64)],i64 8] (eA (G:=GT t fz) ns root 8 h c hcl hk) ?_ ?_ rfl ?_ ⟨by simp only [go_sem],by first | (rw [aa];decide) | (simp only [go_sem]<;>(try rw [aa])<;>decide)⟩ ?_
   ·rintro r hp' ⟨zs,rfl,rfl,_,hzf⟩
    exact ⟨rfl,by simp [bT,Ob.flat,hzf]⟩
   ·unfold bD
    simp only [go_sem]
    refine ⟨_,rfl,?_⟩
    simp only [go_sem]
    first | exact .inr trivial | skip
   ·unfold bD
    simp only [go_sem]
   rintro _ _ ⟨z8,rfl,rfl,h8,f8⟩
   simp only [go_sem]
   refine ai E (fun g=>?_) (fun g=>?_)<;>simp only [go_sem]
   ·have hb8:aB ns 8 c=true:=decide_eq_true g
    have hAy:R8=fR ns c.1 (!c.1) (aw ns 8 c.2.2) R7.2:=by rw [hR8,bg,if_pos hb8]
    rw [← hAy] at cc
    rw [hb8] at hR
    refine bt E [72,0] none z8 rfl rfl ?_
    refine aM E (tau [([2],[93])]) _ _ _ cc rfl (by simp only [go_sem];rw [h8]) ⟨by simp only [go_sem],by first | (rw [aa];decide) | (simp only [go_sem]<;>(try rw [aa])<;>decide)⟩ rfl (by simp only [go_sem]) (by simp only [go_sem]) ?_
    rintro _ _ ⟨rfl,rfl⟩
    refine ⟨by simp only [go_sem];try simp,?_⟩
    simp only [go_sem]
    subst hR
    refine ⟨_,_,[0,1,2,6,7],tau [([6],[84,6]),([7],[84,7])],⟨rfl,rfl⟩,?_⟩
    unfold stV
    simp only [go_sem]
   ·have hb8:aB ns 8 c=false:=decide_eq_false g
    have hAy:R8=([],R7.2):=by rw [hR8,bg,if_neg (by rw [hb8];simp)]
    rw [hb8] at hR
    rw [hAy] at hR
    subst hR
    refine ⟨_,_,[0,1,2,6,7],tau [([6],[93]),([7],[96])],⟨rfl,rfl⟩,?_⟩
    unfold stV
    simp only [go_sem]
  ·have hb7:aB ns 7 c=false:=decide_eq_false g
   have hAy:R7=([],A.2):=by rw [hR7,bg,if_neg (by rw [hb7];simp)]
   refine kX E (τ:=tau [([93],[94])]) (s2:=mk (snF 70 71 c) (snP ns root R7.2 (fl || decide (30<R7.1.length)) 93 c b3 b4 b5 true false false V A.1.1 A.1.2 R7.1) [96,5,4,3,0,1,2,93]) (LeL.le ?_) ?_
   ·unfold snF snP
    rw [hAy,show (fl || decide (30<([]:List Fld).length))=fl by simp]
    simp only [go_sem]
    all_goals first | rfl | ((repeat' apply And.intro)<;>first | rfl | trivial)
   unfold snF snP
   have l7:R7.2.length≤A.2.length+2000000:=by rw [hR7];exact jY hkd _ _ _
   obtain ⟨R8,hR8⟩:∃ R,R=bg ns c 8 (!c.1) R7.2:=⟨_,rfl⟩
   have cc:=kB (t:=t) (fz:=fz) ns root R7.2 (fl || decide (30<R7.1.length)) c.1 (!c.1) (aw ns 8 c.2.2) h hfl (Nat.le_trans (bd _ _ _) hkd.len) (fun x hx=>hk x (aq hx).1) (fun x hx=>hkd.fd x (aq hx).1) (by omega)
   unfold bO aj at cc
   rw [← hA,← hR7,← hR8,hb6,hb7,hV,show aB ns 3 c=b3 from hb3,show aB ns 4 c=b4 from hb4,show aB ns 5 c=b5 from hb5] at hR
   refine bA E [.U [0] [.sl (some 4) (ns.map ah),i64 root,.unk,.unk,.unk],.B [0] (bD ns root)] [.ptr (bD ns root),.agg [.bool c.1,.bool c.2.1,.sl none (c.2.2.map i64)],i64 8] (eA (G:=GT t fz) ns root 8 h c hcl hk) ?_ ?_ rfl ?_ ⟨by simp only [go_sem],by first | (rw [aa];decide) | (simp only [go_sem]<;>(try rw [aa])<;>decide)⟩ ?_
   ·rintro r hp' ⟨zs,rfl,rfl,_,hzf⟩
    exact ⟨rfl,by simp [bT,Ob.flat,hzf]⟩
   ·unfold bD
    simp only [go_sem]
    refine ⟨_,rfl,?_⟩
    simp only [go_sem]
    first | exact .inr trivial | skip
   ·unfold bD
    simp only [go_sem]
   rintro _ _ ⟨z8,rfl,rfl,h8,f8⟩
   simp only [go_sem]
   refine ai E (fun g=>?_) (fun g=>?_)<;>simp only [go_sem]
   ·have hb8:aB ns 8 c=true:=decide_eq_true g
    have hAy:R8=fR ns c.1 (!c.1) (aw ns 8 c.2.2) R7.2:=by rw [hR8,bg,if_pos hb8]
    rw [← hAy] at cc
    rw [hb8] at hR
    refine bt E [72,0] none z8 rfl rfl ?_
    refine aM E (tau [([2],[93])]) _ _ _ cc rfl (by simp only [go_sem];rw [h8]) ⟨by simp only [go_sem],by first | (rw [aa];decide) | (simp only [go_sem]<;>(try rw [aa])<;>decide)⟩ rfl (by simp only [go_sem]) (by simp only [go_sem]) ?_
    rintro _ _ ⟨rfl,rfl⟩
    refine ⟨by simp only [go_sem];try simp,?_⟩
    simp only [go_sem]
    subst hR
    refine ⟨_,_,[0,1,2,6,7],tau [([6],[84,6]),([7],[84,7])],⟨rfl,rfl⟩,?_⟩
    unfold stV
    simp only [go_sem]
   ·have hb8:aB ns 8 c=false:=decide_eq_false g
    have hAy:R8=([],R7.2):=by rw [hR8,bg,if_neg (by rw [hb8];simp)]
    rw [hb8] at hR
    rw [hAy] at hR
    subst hR
    refine ⟨_,_,[0,1,2,6,7],tau [([6],[93]),([7],[96])],⟨rfl,rfl⟩,?_⟩
    unfold stV
    simp only [go_sem]
 ·have hb6:aB ns 6 c=false:=decide_eq_false g
  have hAy:A=((0,0),W):=by rw [hA,cG,if_neg (by rw [hb6];simp)]
  refine kX E (τ:=tau [([94],[95])]) (s2:=mk (snF 55 56 c) (snP ns root A.2 fl 94 c b3 b4 b5 false false false V A.1.1 A.1.2 []) [96,5,4,3,0,1,2,94]) (LeL.le ?_) ?_
  ·unfold snF snP
   rw [hAy]
   simp only [go_sem]
   all_goals first | rfl | ((repeat' apply And.intro)<;>first | rfl | trivial)
  unfold snF snP
  have lA:A.2.length≤W.length+2:=by rw [hA];exact rV _ _ _
  obtain ⟨R7,hR7⟩:∃ R,R=bg ns c 7 c.1 A.2:=⟨_,rfl⟩
  have cb:=kB (t:=t) (fz:=fz) ns root A.2 fl c.1 c.1 (aw ns 7 c.2.2) h hfl (Nat.le_trans (bd _ _ _) hkd.len) (fun x hx=>hk x (aq hx).1) (fun x hx=>hkd.fd x (aq hx).1) (by omega)
  unfold bO aj at cb
  refine bA E [.U [0] [.sl (some 4) (ns.map ah),i64 root,.unk,.unk,.unk],.B [0] (bD ns root)] [.ptr (bD ns root),.agg [.bool c.1,.bool c.2.1,.sl none (c.2.2.map i64)],i64 7] (eA (G:=GT t fz) ns root 7 h c hcl hk) ?_ ?_ rfl ?_ ⟨by simp only [go_sem],by first | (rw [aa];decide) | (simp only [go_sem]<;>(try rw [aa])<;>decide)⟩ ?_
  ·rintro r hp' ⟨zs,rfl,rfl,_,hzf⟩
   exact ⟨rfl,by simp [bT,Ob.flat,hzf]⟩
  ·unfold bD
   simp only [go_sem]
   refine ⟨_,rfl,?_⟩
   simp only [go_sem]
   first | exact .inr trivial | skip
  ·unfold bD
   simp only [go_sem]
  rintro _ _ ⟨z7,rfl,rfl,h7,f7⟩
  simp only [go_sem]
  refine ai E (fun g=>?_) (fun g=>?_)<;>simp only [go_sem]
  ·have hb7:aB ns 7 c=true:=decide_eq_true g
   have hAy:R7=fR ns c.1 c.1 (aw ns 7 c.2.2) A.2:=by rw [hR7,bg,if_pos hb7]
   rw [← hAy] at cb
   refine bt E [57,0] none z7 rfl rfl ?_
   refine aM E (tau [([2],[94])]) _ _ _ cb rfl (by simp only [go_sem];rw [h7]) ⟨by simp only [go_sem],by first | (rw [aa];decide) | (simp only [go_sem]<;>(try rw [aa])<;>decide)⟩ rfl (by simp only [go_sem]) (by simp only [go_sem]) ?_
   rintro _ _ ⟨rfl,rfl⟩
   refine ⟨by simp only [go_sem];try simp,?_⟩
   simp only [go_sem]
   refine bt E [68,7] (some 2) (R7.1.map aG) rfl rfl ?_
   refine kX E (τ:=tau [([93],[68,6])]) (s2:=mk (snF 70 71 c) (snP ns root R7.2 (fl || decide (30<R7.1.length)) 93 c b3 b4 b5 false true false V A.1.1 A.1.2 R7.1) [96,5,4,3,0,1,2,93]) (LeL.le ?_) ?_
   ·unfold snF snP
    simp only [go_sem]
    all_goals first | rfl | ((repeat' apply And.intro)<;>first | rfl | trivial)
   unfold snF snP
   have l7:R7.2.length≤A.2.length+2000000:=by rw [hR7];exact jY hkd _ _ _
   obtain ⟨R8,hR8⟩:∃ R,R=bg ns c 8 (!c.1) R7.2:=⟨_,rfl⟩
   have cc:=kB (t:=t) (fz:=fz) ns root R7.2 (fl || decide (30<R7.1.length)) c.1 (!c.1) (aw ns 8 c.2.2) h hfl (Nat.le_trans (bd _ _ _) hkd.len) (fun x hx=>hk x (aq hx).1) (fun x hx=>hkd.fd x (aq hx).1) (by omega)
   unfold bO aj at cc
   rw [← hA,← hR7,← hR8,hb6,hb7,hV,show aB ns 3 c=b3 from hb3,show aB ns 4 c=b4 from hb4,show aB ns 5 c=b5 from hb5] at hR
   refine bA E [.U [0] [.sl (some 4) (ns.map ah),i64 root,.unk,.unk,.unk],.B [0] (bD ns root)] [.ptr (bD ns root),.agg [.bool c.1,.bool c.2.1,.sl none (c.2.2.map i64)],i64 8] (eA (G:=GT t fz) ns root 8 h c hcl hk) ?_ ?_ rfl ?_ ⟨by simp only [go_sem],by first | (rw [aa];decide) | (simp only [go_sem]<;>(try rw [aa])<;>decide)⟩ ?_
   ·rintro r hp' ⟨zs,rfl,rfl,_,hzf⟩
    exact ⟨rfl,by simp [bT,Ob.flat,hzf]⟩
   ·unfold bD
    simp only [go_sem]
    refine ⟨_,rfl,?_⟩
    simp only [go_sem]
    first | exact .inr trivial | skip
   ·unfold bD
    simp only [go_sem]
   rintro _ _ ⟨z8,rfl,rfl,h8,f8⟩
   simp only [go_sem]
   refine ai E (fun g=>?_) (fun g=>?_)<;>simp only [go_sem]
   ·have hb8:aB ns 8 c=true:=decide_eq_true g
    have hAy:R8=fR ns c.1 (!c.1) (aw ns 8 c.2.2) R7.2:=by rw [hR8,bg,if_pos hb8]
    rw [← hAy] at cc
    rw [hb8] at hR
    refine bt E [72,0] none z8 rfl rfl ?_
    refine aM E (tau [([2],[93])]) _ _ _ cc rfl (by simp only [go_sem];rw [h8]) ⟨by simp only [go_sem],by first | (rw [aa];decide) | (simp only [go_sem]<;>(try rw [aa])<;>decide)⟩ rfl (by simp only [go_sem]) (by simp only [go_sem]) ?_
    rintro _ _ ⟨rfl,rfl⟩
    refine ⟨by simp only [go_sem];try simp,?_⟩
    simp only [go_sem]
    subst hR
    refine ⟨_,_,[0,1,2,6,7],tau [([6],[84,6]),([7],[84,7])],⟨rfl,rfl⟩,?_⟩
    unfold stV
    simp only [go_sem]
   ·have hb8:aB ns 8 c=false:=decide_eq_false g
    have hAy:R8=([],R7.2):=by rw [hR8,bg,if_neg (by rw [hb8];simp)]
    rw [hb8] at hR
    rw [hAy] at hR
    subst hR
    refine ⟨_,_,[0,1,2,6,7],tau [([6],[93]),([7],[96])],⟨rfl,rfl⟩,?_⟩
    unfold stV
    simp only [go_sem]
  ·have hb7:aB ns 7 c=false:=decide_eq_false g
   have hAy:R7=([],A.2):=by rw [hR7,bg,if_neg (by rw [hb7];simp)]
   refine kX E (τ:=tau [([93],[94])]) (s2:=mk (snF 70 71 c) (snP ns root R7.2 (fl || decide (30<R7.1.length)) 93 c b3 b4 b5 false false false V A.1.1 A.1.2 R7.1) [96,5,4,3,0,1,2,93]) (LeL.le ?_) ?_
   ·unfold snF snP
    rw [hAy,show (fl || decide (30<([]:List Fld).length))=fl by simp]
    simp only [go_sem]
    all_goals first | rfl | ((repeat' apply And.intro)<;>first | rfl | trivial)
   unfold snF snP
   have l7:R7.2.length≤A.2.length+2000000:=by rw [hR7];exact jY hkd _ _ _
   obtain ⟨R8,hR8⟩:∃ R,R=bg ns c 8 (!c.1) R7.2:=⟨_,rfl⟩
   have cc:=kB (t:=t) (fz:=fz) ns root R7.2 (fl || decide (30<R7.1.length)) c.1 (!c.1) (aw ns 8 c.2.2) h hfl (Nat.le_trans (bd _ _ _) hkd.len) (fun x hx=>hk x (aq hx).1) (fun x hx=>hkd.fd x (aq hx).1) (by omega)
   unfold bO aj at cc
   rw [← hA,← hR7,← hR8,hb6,hb7,hV,show aB ns 3 c=b3 from hb3,show aB ns 4 c=b4 from hb4,show aB ns 5 c=b5 from hb5] at hR
   refine bA E [.U [0] [.sl (some 4) (ns.map ah),i64 root,.unk,.unk,.unk],.B [0] (bD ns root)] [.ptr (bD ns root),.agg [.bool c.1,.bool c.2.1,.sl none (c.2.2.map i64)],i64 8] (eA (G:=GT t fz) ns root 8 h c hcl hk) ?_ ?_ rfl ?_ ⟨by simp only [go_sem],by first | (rw [aa];decide) | (simp only [go_sem]<;>(try rw [aa])<;>decide)⟩ ?_
   ·rintro r hp' ⟨zs,rfl,rfl,_,hzf⟩
    exact ⟨rfl,by simp [bT,Ob.flat,hzf]⟩
   ·unfold bD
    simp only [go_sem]
    refine ⟨_,rfl,?_⟩
    simp only [go_sem]
    first | exact .inr trivial | skip
   ·unfold bD
    simp only [go_sem]
   rintro _ _ ⟨z8,rfl,rfl,h8,f8⟩
   simp only [go_sem]
   refine ai E (fun g=>?_) (fun g=>?_)<;>simp only [go_sem]
   ·have hb8:aB ns 8 c=true:=decide_eq_true g
    have hAy:R8=fR ns c.1 (!c.1) (aw ns 8 c.2.2) R7.2:=by rw [hR8,bg,if_pos hb8]
    rw [← hAy] at cc
    rw [hb8] at hR
    refine bt E [72,0] none z8 rfl rfl ?_
    refine aM E (tau [([2],[93])]) _ _ _ cc rfl (by simp only [go_sem];rw [h8]) ⟨by simp only [go_sem],by first | (rw [aa];decide) | (simp only [go_sem]<;>(try rw [aa])<;>decide)⟩ rfl (by simp only [go_sem]) (by simp only [go_sem]) ?_
    rintro _ _ ⟨rfl,rfl⟩
    refine ⟨by simp only [go_sem];try simp,?_⟩
    simp only [go_sem]
    subst hR
    refine ⟨_,_,[0,1,2,6,7],tau [([6],[84,6]),([7],[84,7])],⟨rfl,rfl⟩,?_⟩
    unfold stV
    simp only [go_sem]
   ·have hb8:aB ns 8 c=false:=decide_eq_false g
    have hAy:R8=([],R7.2):=by rw [hR8,bg,if_neg (by rw [hb8];simp)]
    rw [hb8] at hR
    rw [hAy] at hR
    subst hR
    refine ⟨_,_,[0,1,2,6,7],tau [([6],[93]),([7],[96])],⟨rfl,rfl⟩,?_⟩
    unfold stV
    simp only [go_sem]
theorem Fk (ns:List TN) (root:Int) (W:List Clu) (fl:Bool) (c:Clu) (h:Inn ns) (hfl:∀ n∈ns,n.l.length≤1000) (hkd:qK ns c) (hW:W.length≤100000) :
  HCall Tryz.prog (GT t fz) 26 [.bx [0] 0,.d (cH c)] (bO ns root W fl 2) [0,1,2] (fun r hp'=>r=.d (stD (bV ns c W).1)∧hp'=bO ns root (bV ns c W).2 ((fl || decide (30<(bV ns c W).1.fl.length)) || decide (30<(bV ns c W).1.tl.length)) 6):=by
 refine HCall.fA (BT (t:=t) (fz:=fz) ns root W fl c h hfl hkd hW) [7] ?_
 rintro r hp' ⟨rfl,rfl⟩
 generalize bV ns c W=R
 generalize (fl || decide (30<R.1.fl.length) || decide (30<R.1.tl.length))=b
 refine ⟨some 2,R.1.tl.map aG,?_,?_,?_⟩
 ·unfold bO
  simp only [go_sem]
 ·unfold stV
  rw [bb]
  simp only [go_sem]
 ·unfold bO
  simp only [go_sem]
end Go.Proofs.YthfodompfpdmgaaGreatDoor

namespace Go.Proofs.YthfodompfpdmgaaGreatDoor
open Go.Ab
def gJ (ns:List TN) (c:Clu):Prop:=c.2.2.length≤2000∧∀ x∈c.2.2,okP ns x
def WOk (ns:List TN) (W:List Clu):Prop:=∀ c∈W,gJ ns c
structure Alls (ns:List TN):Prop where
 fn:∀ i,okP ns i→kdI ns i=6→okP ns (nd ns i.toNat).a∧okP ns (nd ns i.toNat).b
 fd:∀ i,okP ns i→(nd ns i.toNat).l.length≤1000∧∀ q∈(nd ns i.toNat).l,q.1.length≤1000000∧okP ns q.2
theorem gJ.kids {ns:List TN} {c:Clu} (h:gJ ns c) (ha:Alls ns):qK ns c:=⟨h.1,h.2,fun x hx=>ha.fn x (h.2 x hx),fun x hx=>ha.fd x (h.2 x hx)⟩
theorem jl {ns:List TN} (h:Inn ns) {p:Bool} {l:List Int} (hk:∀ x∈l,okP ns x):gJ ns (ofC ns p l):=by
 have h1:=iU h hk
 have h2:=ie h hk
 unfold ofC
 split
 ·exact ⟨Nat.zero_le _,by simp⟩
 ·exact ⟨Nat.le_trans (List.length_filter_le _ _) h1,fun x hx=>h2 x (List.mem_filter.1 hx).1⟩
theorem gZ {ns:List TN} {W:List Clu} {c:Clu} (hW:WOk ns W) (hc:gJ ns c):WOk ns (ak W c).2:=by
 unfold ak
 split
 ·exact hW
 ·intro d hd
  rcases List.mem_append.1 hd with hd | hd
  ·exact hW d hd
  ·rw [List.mem_singleton.1 hd];exact hc
theorem BW {ns:List TN} (h:Inn ns) (ha:Alls ns) {p:Bool} {l:List Int} {W:List Clu} (hW:WOk ns W) (hl:∀ x∈l,okP ns x∧kdI ns x=6):WOk ns (fB ns p l W).2:=by
 unfold fB
 refine gZ (gZ hW (jl h fun x hx=>?_)) (jl h fun x hx=>?_)
 ·obtain ⟨y,hy,rfl⟩:=List.mem_map.1 hx
  exact (ha.fn y (hl y hy).1 (hl y hy).2).1
 ·obtain ⟨y,hy,rfl⟩:=List.mem_map.1 hx
  exact (ha.fn y (hl y hy).1 (hl y hy).2).2
theorem CU {ns:List TN} (h:Inn ns) (ha:Alls ns) {p wh:Bool} {l:List Int} {W:List Clu} (hW:WOk ns W) (hl:∀ x∈l,okP ns x):WOk ns (fR ns p wh l W).2:=by
 have hF:=pY (P:=fun k=>k.length≤1000000) (R:=fun x=>okP ns x) (ns:=ns) (l:=l) fun x hx=>ha.fd x (hl x hx)
 unfold fR sh
 have key:∀ (S:List (List UInt8)) (s:List Fld × List Clu),(∀ k∈S,k∈(gy ns l).map (·.1))→WOk ns s.2→WOk ns (S.foldl (mw ns p wh l.length (gy ns l)) s).2:=by
  intro S
  induction S with
  | nil=>intro s _ hs;exact hs
  | cons k r ih =>
    intro s hk hs
    rw [List.foldl_cons]
    refine ih _ (fun x hx=>hk x (List.mem_cons_of_mem _ hx)) ?_
    unfold mw
    split
    ·exact gZ hs (jl h (hF.vl _ (iO (hk k List.mem_cons_self))))
    ·exact hs
 exact key _ _ (fun k hk=>List.mem_mergeSort.1 hk) hW
theorem pe {ns:List TN} (h:Inn ns) (ha:Alls ns) {c:Clu} {W:List Clu} (hW:WOk ns W) (hc:gJ ns c):WOk ns (bV ns c W).2:=by
 have h6:WOk ns (cG ns c W).2:=by
  unfold cG
  split
  ·exact BW h ha hW fun x hx=>⟨hc.2 x (aq hx).1,(aq hx).2⟩
  ·exact hW
 have hE:∀ (k:Int) (wh:Bool) (V:List Clu),WOk ns V→WOk ns (bg ns c k wh V).2:=fun k wh V hV=>by
  unfold bg
  split
  ·exact CU h ha hV fun x hx=>hc.2 x (aq hx).1
  ·exact hV
 exact hE _ _ _ (hE _ _ _ h6)
noncomputable def dW (ns:List TN) (n:Int):Nat→List EA→List Clu→Option (List EA)
 | 0,_,_=>none
 | f+1,L,W=>if h:L.length<W.length then
   if ((decide (30<(bV ns W[L.length] W).1.fl.length) || decide (30<(bV ns W[L.length] W).1.tl.length)) || decide (n<((bV ns W[L.length] W).2.length:Int)))=true then none
   else dW ns n f (L++[(bV ns W[L.length] W).1]) (bV ns W[L.length] W).2
  else some L
end Go.Proofs.YthfodompfpdmgaaGreatDoor

namespace Go.Proofs.YthfodompfpdmgaaGreatDoor
open Go.Ab
def Az (c:UInt8):Bool:=decide (48≤c.toNat) && decide (c.toNat≤57)
def xD (l:List UInt8):Nat:=l.foldl (fun v c=>10*v+(c.toNat-48)) 0
theorem xR (l:List UInt8) (c:UInt8):xD (l++[c])=10*xD l+(c.toNat-48):=by simp [xD]
theorem vt {d:Nat} (h:d<10):Az (UInt8.ofNat (48+d))=true∧(UInt8.ofNat (48+d)).toNat=48+d:=by
 have e:(UInt8.ofNat (48+d)).toNat=48+d:=by rw [UInt8.toNat_ofNat'];omega
 refine ⟨?_,e⟩
 unfold Az
 rw [e,decide_eq_true (by omega),decide_eq_true (by omega)];rfl
theorem zz (u:Nat):xD (Lib.decDigits u)=u∧(Lib.decDigits u).all Az=true:=by
 induction u using Nat.strongRecOn with
 | ind u ih =>
   by_cases h:u<10
   ·rw [Lib.decDigits,dif_pos h]
    obtain ⟨h1,h2⟩:=vt h
    generalize UInt8.ofNat (48+u)=c at *
    exact ⟨by simp [xD,h2],by simp [h1]⟩
   ·rw [Lib.decDigits,dif_neg h]
    obtain ⟨h1,h2⟩:=vt (d:=u % 10) (by omega)
    generalize UInt8.ofNat (48+u % 10)=c at *
    obtain ⟨g1,g2⟩:=ih (u / 10) (by omega)
    exact ⟨by rw [xR,g1,h2];omega,by simp [g2,h1]⟩
theorem o0 {x:Int} (h:0≤x):(xD (Lib.itoa x):Int)=x∧(Lib.itoa x).all Az=true:=by
 unfold Lib.itoa
 rw [if_neg (by omega)]
 obtain ⟨h1,h2⟩:=zz x.toNat
 exact ⟨by rw [h1];omega,h2⟩
theorem xu {x y:Int} (hx:0≤x) (hy:0≤y) (h:Lib.itoa x=Lib.itoa y):x=y:=by
 rw [← (o0 hx).1,← (o0 hy).1,h]
def nxB:List UInt8→Prop
 | []=>True
 | c::_=>c=32
theorem pieces {u v A B:List UInt8} (hu:(32:UInt8) ∉ u) (hv:(32:UInt8) ∉ v) (hA:nxB A) (hB:nxB B) (h:u++A=v++B):u=v∧A=B:=by
 induction u generalizing v with
 | nil =>
   cases v with
   | nil=>exact ⟨rfl,h⟩
   | cons c v =>
     rw [List.nil_append,List.cons_append] at h
     subst h
     exact absurd (show (32:UInt8)∈c::v by rw [show c=32 from hA];exact List.mem_cons_self) hv
 | cons c u ih =>
   cases v with
   | nil =>
     rw [List.nil_append,List.cons_append] at h
     subst h
     exact absurd (show (32:UInt8)∈c::u by rw [show c=32 from hB];exact List.mem_cons_self) hu
   | cons d v =>
     rw [List.cons_append,List.cons_append] at h
     obtain ⟨h1,h2⟩:=List.cons.inj h
     obtain ⟨e1,e2⟩:=ih (fun hm=>hu (List.mem_cons_of_mem _ hm)) (fun hm=>hv (List.mem_cons_of_mem _ hm)) h2
     exact ⟨by rw [h1,e1],e2⟩
theorem tQ {l:List UInt8} (h:l.all Az=true):(32:UInt8) ∉ l:=fun hm=>by
 have:=List.all_eq_true.1 h _ hm
 exact absurd this (by decide)
theorem fF (l:List Int):nxB ((l.map Lib.itoa).flatMap (spB++·)):=by
 cases l with
 | nil=>exact trivial
 | cons x r=>exact rfl
theorem sY:∀ {a b:List Int},(∀ x∈a,0≤x)→(∀ x∈b,0≤x)→(a.map Lib.itoa).flatMap (spB++·)=(b.map Lib.itoa).flatMap (spB++·)→a=b
 | [],[],_,_,_=>rfl
 | [],y::b,_,_,h=>by simp [spB] at h
 | x::a,[],_,_,h=>by simp [spB] at h
 | x::a,y::b,ha,hb,h=>by
   have hx:=ha x List.mem_cons_self
   have hy:=hb y List.mem_cons_self
   rw [List.map_cons,List.map_cons,List.flatMap_cons,List.flatMap_cons,List.append_assoc,List.append_assoc] at h
   have h':=List.append_cancel_left h
   obtain ⟨e1,e2⟩:=pieces (tQ (o0 hx).2) (tQ (o0 hy).2) (fF a) (fF b) h'
   rw [xu hx hy e1,sY (fun z hz=>ha z (List.mem_cons_of_mem _ hz)) (fun z hz=>hb z (List.mem_cons_of_mem _ hz)) e2]
def iw (c:Clu):Prop:=(∀ x∈c.2.2,0≤x)∧(c.2.1=true→c.2.2=[])
theorem qp:nxB [32,97,108,108]:=rfl
theorem gD (b:Bool):(32:UInt8) ∉ mf b:=by cases b<;>decide
theorem vq {a b:Bool} (h:mf a=mf b):a=b:=by revert h;cases a<;>cases b<;>decide
theorem uY (l:List Int) (hl:∀ x∈l,0≤x):([32,97,108,108]:List UInt8)≠(l.map Lib.itoa).flatMap (spB++·):=fun h=>by
 cases l with
 | nil=>cases h
 | cons x r =>
   have hx:=hl x List.mem_cons_self
   rw [List.map_cons,List.flatMap_cons,List.append_assoc] at h
   have h':([97,108,108]:List UInt8)++[]=Lib.itoa x++(r.map Lib.itoa).flatMap (spB++·):=by
    have:=(List.cons.inj h).2
    simpa using this
   obtain ⟨e1,_⟩:=pieces (by decide) (tQ (o0 hx).2) (show nxB [] from trivial) (fF r) h'
   have h2:=(o0 hx).2
   rw [← e1] at h2
   exact absurd h2 (by decide)
theorem key_inj {c d:Clu} (hc:iw c) (hd:iw d) (h:fS c=fS d):c=d:=by
 obtain ⟨p,a,l⟩:=c
 obtain ⟨q,b,m⟩:=d
 obtain ⟨hc1,hc2⟩:=hc
 obtain ⟨hd1,hd2⟩:=hd
 simp only at hc1 hc2 hd1 hd2
 unfold fS at h
 simp only [List.map_cons,u0] at h
 cases a with
 | true =>
   have hl:=hc2 rfl
   subst hl
   cases b with
   | true =>
     have hm:=hd2 rfl
     subst hm
     rw [if_pos rfl,if_pos rfl] at h
     obtain ⟨e1,_⟩:=pieces (gD p) (gD q) qp qp h
     rw [vq e1]
   | false =>
     rw [if_pos rfl,if_neg (by simp)] at h
     obtain ⟨_,e2⟩:=pieces (gD p) (gD q) qp (fF m) h
     exact absurd e2 (uY m hd1)
 | false =>
   cases b with
   | true =>
     rw [if_neg (by simp),if_pos rfl] at h
     obtain ⟨_,e2⟩:=pieces (gD p) (gD q) (fF l) qp h
     exact absurd e2.symm (uY l hc1)
   | false =>
     rw [if_neg (by simp),if_neg (by simp)] at h
     obtain ⟨e1,e2⟩:=pieces (gD p) (gD q) (fF l) (fF m) h
     rw [vq e1,sY hc1 hd1 e2]
def oa (c:Clu):Nat→List Clu→Option Nat
 | _,[]=>none
 | n,d::r=>if d=c then some n else oa c (n+1) r
theorem qg {c:Clu} (hc:iw c):∀ {W:List Clu} (n:Nat),(∀ d∈W,iw d)→plc (fS c) n W=oa c n W
 | [],_,_=>rfl
 | d::r,n,h=>by
   rw [plc,oa,qg hc (n+1) fun x hx=>h x (List.mem_cons_of_mem _ hx)]
   by_cases e:d=c
   ·rw [if_pos e,if_pos (by rw [e])]
   ·rw [if_neg e,if_neg fun hk=>e (key_inj (h d List.mem_cons_self) hc hk)]
theorem uX {c:Clu}:∀ {W:List Clu} {n i:Nat},i<W.length→(∀ j,j<i→W.getD j default≠c)→W.getD i default=c→oa c n W=some (n+i)
 | [],_,_,h,_,_=>absurd h (Nat.not_lt_zero _)
 | d::r,n,0,_,_,h2=>by rw [oa,if_pos (by simpa using h2)];rfl
 | d::r,n,i+1,h,h1,h2=>by
   rw [oa,if_neg (by simpa using h1 0 (Nat.succ_pos _)),uX (n:=n+1) (i:=i) (by simpa using h) (fun j hj=>by simpa using h1 (j+1) (by omega)) (by simpa using h2)]
   congr 1
   omega
theorem oS {c:Clu}:∀ {W:List Clu} {n:Nat},(∀ j,j<W.length→W.getD j default≠c)→oa c n W=none
 | [],_,_=>rfl
 | d::r,n,h=>by
   rw [oa,if_neg (by simpa using h 0 (Nat.succ_pos _))]
   exact oS fun j hj=>by simpa using h (j+1) (by simpa using hj)
theorem xI {c:Clu} {W:List Clu} {i:Nat} (hc:iw c) (hW:∀ d∈W,iw d) (h:i<W.length) (h1:∀ j,j<i→W.getD j default≠c) (h2:W.getD i default=c):ak W c=(i,W):=by
 unfold ak
 rw [qg hc 0 hW,uX h h1 h2]
 simp
theorem jk {c:Clu} {W:List Clu} (hc:iw c) (hW:∀ d∈W,iw d) (h:∀ j,j<W.length→W.getD j default≠c):ak W c=(W.length,W++[c]):=by
 unfold ak
 rw [qg hc 0 hW,oS h]
theorem oK {ns:List TN} (h:Inn ns) {p:Bool} {l:List Int} (hk:∀ x∈l,okP ns x):iw (ofC ns p l):=by
 refine ⟨fun x hx=>((jl h hk).2 x hx).1,fun ha=>?_⟩
 unfold ofC at ha ⊢
 split at ha<;>rename_i he
 ·rw [if_pos he]
 ·cases ha
end Go.Proofs.YthfodompfpdmgaaGreatDoor

namespace Go.Proofs.YthfodompfpdmgaaGreatDoor
open Go.Ab
abbrev eG (l:List (List UInt8)):Prop:=l.Pairwise (· < ·)
theorem mh {x:List UInt8}:¬ x<x:=List.lt_irrefl x
theorem tW {x y z:List UInt8} (h1:x<y) (h2:y<z):x<z:=List.lt_trans h1 h2
theorem wu {x y:List UInt8} (h1:¬ x<y) (h2:y≠x):y<x:=by
 have h3:y≤x:=List.not_lt.1 h1
 exact List.not_le.1 fun h4=>h2 (List.le_antisymm h3 h4)
theorem rQ:∀ {a b:List (List UInt8)},eG a→eG b→(∀ x,x∈a↔x∈b)→a=b
 | [],[],_,_,_=>rfl
 | [],y::r,_,_,h=>absurd ((h y).2 List.mem_cons_self) (by simp)
 | x::r,[],_,_,h=>absurd ((h x).1 List.mem_cons_self) (by simp)
 | x::a,y::b,ha,hb,h=>by
   have ha':=List.pairwise_cons.1 ha
   have hb':=List.pairwise_cons.1 hb
   have e:x=y:=by
    rcases List.mem_cons.1 ((h x).1 List.mem_cons_self) with e | hx
    ·exact e
    ·rcases List.mem_cons.1 ((h y).2 List.mem_cons_self) with e | hy
     ·exact e.symm
     ·exact absurd (tW (hb'.1 x hx) (ha'.1 y hy)) mh
   subst e
   rw [rQ ha'.2 hb'.2 fun z=>?_]
   constructor
   ·intro hz
    rcases List.mem_cons.1 ((h z).1 (List.mem_cons_of_mem _ hz)) with e | hz'
    ·exact absurd (e ▸ ha'.1 z hz) mh
    ·exact hz'
   ·intro hz
    rcases List.mem_cons.1 ((h z).2 (List.mem_cons_of_mem _ hz)) with e | hz'
    ·exact absurd (e ▸ hb'.1 z hz) mh
    ·exact hz'
def bX (x:List UInt8):List (List UInt8)→Nat
 | []=>0
 | y::r=>if y<x then bX x r+1 else 0
theorem pB (x:List UInt8):∀ l:List (List UInt8),bX x l≤l.length
 | []=>Nat.le_refl _
 | y::r=>by
   rw [bX]
   split
   ·exact Nat.succ_le_succ (pB x r)
   ·exact Nat.zero_le _
theorem lW {x:List UInt8}:∀ {l:List (List UInt8)} {i:Nat} (h:i<l.length),i<bX x l→l[i]<x
 | [],i,h,_=>absurd h (Nat.not_lt_zero _)
 | y::r,i,h,hi=>by
   rw [bX] at hi
   split at hi
   ·rename_i hy
    cases i with
    | zero=>exact hy
    | succ i=>exact lW (l:=r) (by simpa using h) (by omega)
   ·exact absurd hi (Nat.not_lt_zero _)
theorem lL {x:List UInt8}:∀ {l:List (List UInt8)} (h:bX x l<l.length),¬ l[bX x l]<x
 | [],h=>absurd h (Nat.not_lt_zero _)
 | y::r,h=>by
   by_cases hy:y<x
   ·have e:bX x (y::r)=bX x r+1:=by rw [bX,if_pos hy]
    have h':bX x r<r.length:=by rw [e] at h;simpa using h
    have:=lL h'
    simp only [e,List.getElem_cons_succ]
    exact this
   ·have e:bX x (y::r)=0:=by rw [bX,if_neg hy]
    simp only [e,List.getElem_cons_zero]
    exact hy
def aT (l:List (List UInt8)) (x:List UInt8):List (List UInt8):=if x∈l then l else l.take (bX x l)++x::l.drop (bX x l)
theorem yF (l:List (List UInt8)) (x z:List UInt8):z∈aT l x↔z∈l∨z=x:=by
 unfold aT
 split
 ·rename_i h
  exact ⟨.inl,fun g=>g.elim id fun e=>e ▸ h⟩
 ·rw [List.mem_append,List.mem_cons]
  have:=List.take_append_drop (bX x l) l
  have hm:z∈l↔z∈l.take (bX x l)∨z∈l.drop (bX x l):=by rw [← List.mem_append,this]
  rw [hm]
  constructor
  ·rintro (h | rfl | h)
   ·exact .inl (.inl h)
   ·exact .inr rfl
   ·exact .inl (.inr h)
  ·rintro ((h | h) | rfl)
   ·exact .inl h
   ·exact .inr (.inr h)
   ·exact .inr (.inl rfl)
theorem cS {l:List (List UInt8)} (h:eG l) (x:List UInt8):eG (aT l x):=by
 unfold aT
 split
 ·exact h
 ·rename_i hx
  have h1:∀ z∈l.take (bX x l),z<x:=fun z hz=>by
   obtain ⟨i,hi,rfl⟩:=List.getElem_of_mem hz
   rw [List.length_take] at hi
   rw [List.getElem_take]
   exact lW (by omega) (by omega)
  have h2:∀ z∈l.drop (bX x l),x<z:=fun z hz=>by
   obtain ⟨i,hi,rfl⟩:=List.getElem_of_mem hz
   rw [List.length_drop] at hi
   have h3:=lL (x:=x) (l:=l) (by omega)
   have hne:l[bX x l]'(by omega)≠x:=fun e=>hx (e ▸ List.getElem_mem _)
   have h4:=wu h3 hne.symm
   rw [List.getElem_drop]
   cases i with
   | zero=>simpa using h4
   | succ i=>exact tW h4 (List.pairwise_iff_getElem.1 h (bX x l) (bX x l+(i+1)) (by omega) (by omega) (by omega))
  rw [eG,List.pairwise_append]
  refine ⟨h.sublist (List.take_sublist _ _),List.pairwise_cons.2 ⟨h2,h.sublist (List.drop_sublist _ _)⟩,fun a ha b hb=>?_⟩
  have:=h1 a ha
  rcases List.mem_cons.1 hb with rfl | hb
  ·exact this
  ·exact tW this (h2 b hb)
theorem dC {l:List (List UInt8)} (h:eG l) {x:List UInt8} (hn:∀ hi:bX x l<l.length,l[bX x l]≠x):x ∉ l:=fun hm=>by
 obtain ⟨k,hk,hkx⟩:=List.getElem_of_mem hm
 have h1:¬ k<bX x l:=fun g=>by have:=lW hk g;rw [hkx] at this;exact mh this
 have hp:bX x l<l.length:=by omega
 have h2:=lL hp
 have h3:=hn hp
 rcases Nat.lt_or_ge (bX x l) k with g | g
 ·have:=List.pairwise_iff_getElem.1 h (bX x l) k hp hk g
  rw [hkx] at this
  exact h2 this
 ·have e:k=bX x l:=by omega
  subst e
  exact h3 hkx
def bf (ns:List TN) (l:List Int) (s:List UInt8):List Int:=l.flatMap fun x=>((nd ns x.toNat).l.filter fun q=>q.1 == s).map (·.2)
def hasB (ns:List TN) (s:List UInt8) (x:Int):Bool:=decide (0<(bf ns [x] s).length)
def fI (ns:List TN) (l:List Int) (s:List UInt8):Nat:=(l.filter (hasB ns s)).length
def nmF (ns:List TN) (l:List Int) (all:Bool) (out:List (List UInt8)) (q:Fld):List (List UInt8):=if (decide (fI ns l q.1=l.length) || !all)=true then aT out q.1 else out
def nmL (ns:List TN) (l:List Int) (all:Bool):List (List UInt8):=l.foldl (fun out x=>(nd ns x.toNat).l.foldl (nmF ns l all) out) []
theorem yr (ns:List TN) (s:List UInt8) (x:Int):hasB ns s x=(nd ns x.toNat).l.any fun q=>q.1 == s:=by
 unfold hasB bf
 rw [List.flatMap_cons,List.flatMap_nil,List.append_nil,List.length_map]
 induction (nd ns x.toNat).l with
 | nil=>rfl
 | cons q r ih =>
   rw [List.filter_cons,List.any_cons]
   cases q.1 == s with
   | true=>simp
   | false=>simpa using ih
theorem vi (ns:List TN) (l:List Int) (all:Bool):∀ (fs:List Fld) (out:List (List UInt8)),eG out→eG (fs.foldl (nmF ns l all) out)∧∀ z,z∈fs.foldl (nmF ns l all) out↔z∈out∨((decide (fI ns l z=l.length) || !all)=true∧z∈fs.map (·.1))
 | [],out,h=>⟨h,fun z=>by simp⟩
 | q::r,out,h=>by
   have h1:eG (nmF ns l all out q):=by
    unfold nmF
    split
    ·exact cS h _
    ·exact h
   obtain ⟨i1,i2⟩:=vi ns l all r _ h1
   refine ⟨i1,fun z=>?_⟩
   rw [List.foldl_cons,i2,List.map_cons,List.mem_cons]
   unfold nmF
   by_cases hc:(decide (fI ns l q.1=l.length) || !all)=true
   ·rw [if_pos hc,yF]
    constructor
    ·rintro ((h | rfl) | h)
     ·exact .inl h
     ·exact .inr ⟨hc,.inl rfl⟩
     ·exact .inr ⟨h.1,.inr h.2⟩
    ·rintro (h | ⟨h,rfl | h'⟩)
     ·exact .inl (.inl h)
     ·exact .inl (.inr rfl)
     ·exact .inr ⟨h,h'⟩
   ·rw [if_neg hc]
    constructor
    ·rintro (h | h)
     ·exact .inl h
     ·exact .inr ⟨h.1,.inr h.2⟩
    ·rintro (h | ⟨h,rfl | h'⟩)
     ·exact .inl h
     ·exact absurd h hc
     ·exact .inr ⟨h,h'⟩
theorem vX (ns:List TN) (l:List Int) (all:Bool):eG (nmL ns l all)∧∀ z,z∈nmL ns l all↔(decide (fI ns l z=l.length) || !all)=true∧∃ x∈l,z∈(nd ns x.toNat).l.map (·.1):=by
 have key:∀ (r:List Int) (out:List (List UInt8)),eG out→eG (r.foldl (fun out x=>(nd ns x.toNat).l.foldl (nmF ns l all) out) out) ∧
   ∀ z,z∈r.foldl (fun out x=>(nd ns x.toNat).l.foldl (nmF ns l all) out) out↔z∈out∨((decide (fI ns l z=l.length) || !all)=true∧∃ x∈r,z∈(nd ns x.toNat).l.map (·.1)):=by
  intro r
  induction r with
  | nil=>intro out h;exact ⟨h,fun z=>by simp⟩
  | cons x r ih =>
    intro out h
    obtain ⟨g1,g2⟩:=vi ns l all (nd ns x.toNat).l out h
    obtain ⟨i1,i2⟩:=ih _ g1
    refine ⟨i1,fun z=>?_⟩
    rw [List.foldl_cons,i2,g2]
    constructor
    ·rintro ((h | h) | ⟨h,y,hy,hz⟩)
     ·exact .inl h
     ·exact .inr ⟨h.1,x,List.mem_cons_self,h.2⟩
     ·exact .inr ⟨h,y,List.mem_cons_of_mem _ hy,hz⟩
    ·rintro (h | ⟨h,y,hy,hz⟩)
     ·exact .inl (.inl h)
     ·rcases List.mem_cons.1 hy with rfl | hy
      ·exact .inl (.inr ⟨h,hz⟩)
      ·exact .inr ⟨h,y,hy,hz⟩
 obtain ⟨k1,k2⟩:=key l [] .nil
 exact ⟨k1,fun z=>by rw [nmL,k2];simp⟩
theorem gY {F:FT} {k:List UInt8} {L:List Int} (hnd:(F.map (·.1)).Nodup) (h:(k,L)∈F):lkF F k=L:=by
 have hk:k∈F.map (·.1):=List.mem_map.2 ⟨_,h,rfl⟩
 have h2:=iO hk
 have key:∀ (F:FT),(F.map (·.1)).Nodup→(k,L)∈F→(k,lkF F k)∈F→lkF F k=L:=by
  intro F hnd h1 h2
  generalize lkF F k=M at h2
  induction F with
  | nil=>cases h1
  | cons q r ih =>
    rw [List.map_cons,List.nodup_cons] at hnd
    rcases List.mem_cons.1 h1 with e1 | g1<;>rcases List.mem_cons.1 h2 with e2 | g2
    ·exact (Prod.mk.inj (e2.trans e1.symm)).2
    ·exact absurd (List.mem_map.2 ⟨(k,M),g2,by rw [← e1]⟩:q.1∈r.map (·.1)) hnd.1
    ·exact absurd (List.mem_map.2 ⟨(k,L),g1,by rw [← e2]⟩:q.1∈r.map (·.1)) hnd.1
    ·exact ih hnd.2 g1 g2
 exact key F hnd h h2
theorem nJ {F:FT} {k:List UInt8} (h:k ∉ F.map (·.1)):lkF F k=[]:=by
 unfold lkF
 cases hf:F.find? fun q=>q.1 == k with
 | none=>rfl
 | some q =>
   have h1:=List.mem_of_find?_eq_some hf
   have h2:=List.find?_some hf
   exact absurd (List.mem_map.2 ⟨q,h1,by simpa using h2⟩) h
theorem xM {F:FT} {k:List UInt8} {v:Int} (hnd:(F.map (·.1)).Nodup):((jE F k v).map (·.1)).Nodup∧∀ z,(z∈(jE F k v).map (·.1)↔z∈F.map (·.1)∨z=k)∧lkF (jE F k v) z=lkF F z++(if k == z then [v] else []):=by
 unfold jE
 cases hm:midx (F.map (·.1)) k with
 | some m =>
   have hg:=iE hm
   rw [List.getElem?_map,Option.map_eq_some_iff] at hg
   obtain ⟨q,hq,hqk⟩:=hg
   have hml:=(List.getElem?_eq_some_iff.1 hq).1
   have hqd:F.getD m ([],[])=q:=by rw [List.getD_eq_getElem?_getD,hq];rfl
   simp only [hqd]
   have hkeys:(F.set m (k,q.2++[v])).map (·.1)=F.map (·.1):=by
    apply List.ext_getElem?
    intro i
    rw [List.getElem?_map,List.getElem?_map,List.getElem?_set]
    by_cases e:m=i
    ·subst e
     rw [if_pos rfl,if_pos hml,hq,Option.map_some,Option.map_some,hqk]
    ·rw [if_neg e]
   have hqm:q∈F:=List.mem_of_getElem? hq
   refine ⟨by rw [hkeys];exact hnd,fun z=>⟨?_,?_⟩⟩
   ·rw [hkeys]
    constructor
    ·exact .inl
    ·rintro (h | rfl)
     ·exact h
     ·exact List.mem_map.2 ⟨q,hqm,hqk⟩
   ·by_cases hz:z=k
    ·subst hz
     rw [if_pos (by simp)]
     have e1:lkF F z=q.2:=gY hnd (by rw [← hqk];exact hqm)
     rw [e1]
     exact gY (by rw [hkeys];exact hnd) (List.mem_iff_getElem?.2 ⟨m,by rw [List.getElem?_set,if_pos rfl,if_pos hml]⟩)
    ·rw [if_neg (by simpa using fun e=>hz e.symm),List.append_nil]
     by_cases hzm:z∈F.map (·.1)
     ·have h1:=iO hzm
      obtain ⟨i,hi⟩:=List.mem_iff_getElem?.1 h1
      have hne:m≠i:=fun e=>by
       subst e
       rw [hq] at hi
       exact hz (by rw [← hqk,Option.some.inj hi])
      exact gY (by rw [hkeys];exact hnd) (List.mem_iff_getElem?.2 ⟨i,by rw [List.getElem?_set,if_neg hne];exact hi⟩)
     ·rw [nJ hzm,nJ (by rw [hkeys];exact hzm)]
 | none =>
   have hno:=l9 hm
   have hnd2:((F++[(k,[v])]).map (·.1)).Nodup:=by
    rw [List.map_append,List.nodup_append]
    exact ⟨hnd,by simp,fun a ha b hb e=>hno (by have h2:b=k:=List.mem_singleton.1 hb;rw [← h2,← e];exact ha)⟩
   refine ⟨hnd2,fun z=>⟨by simp,?_⟩⟩
   by_cases hz:z=k
   ·subst hz
    rw [if_pos (by simp),nJ hno]
    exact gY hnd2 (List.mem_append_right _ List.mem_cons_self)
   ·rw [if_neg (by simpa using fun e=>hz e.symm),List.append_nil]
    by_cases hzm:z∈F.map (·.1)
    ·exact gY hnd2 (List.mem_append_left _ (iO hzm))
    ·rw [nJ hzm,nJ]
     simp only [List.map_append,List.map_cons,List.map_nil,List.mem_append,List.mem_singleton,not_or]
     exact ⟨hzm,hz⟩
theorem oW:∀ {fs:List Fld} {F:FT},(F.map (·.1)).Nodup→((cW F fs).map (·.1)).Nodup∧∀ z,(z∈(cW F fs).map (·.1)↔z∈F.map (·.1)∨z∈fs.map (·.1))∧lkF (cW F fs) z=lkF F z++(fs.filter fun q=>q.1 == z).map (·.2)
 | [],F,h=>⟨h,fun z=>⟨by simp [cW],by simp [cW]⟩⟩
 | q::r,F,h=>by
   obtain ⟨h1,h2⟩:=xM (k:=q.1) (v:=q.2) h
   obtain ⟨i1,i2⟩:=oW (fs:=r) h1
   refine ⟨i1,fun z=>⟨?_,?_⟩⟩
   ·show z∈(cW (jE F q.1 q.2) r).map (·.1)↔_
    rw [(i2 z).1,(h2 z).1,List.map_cons,List.mem_cons,or_assoc]
   ·show lkF (cW (jE F q.1 q.2) r) z=_
    rw [(i2 z).2,(h2 z).2,List.filter_cons,List.append_assoc]
    cases q.1 == z<;>simp
theorem xV (ns:List TN) (l:List Int):((gy ns l).map (·.1)).Nodup∧∀ z,(z∈(gy ns l).map (·.1)↔∃ x∈l,z∈(nd ns x.toNat).l.map (·.1))∧lkF (gy ns l) z=bf ns l z:=by
 have key:∀ (r:List Int) (F:FT),(F.map (·.1)).Nodup→((r.foldl (fun F x=>cW F (nd ns x.toNat).l) F).map (·.1)).Nodup ∧
   ∀ z,(z∈(r.foldl (fun F x=>cW F (nd ns x.toNat).l) F).map (·.1)↔z∈F.map (·.1)∨∃ x∈r,z∈(nd ns x.toNat).l.map (·.1))∧lkF (r.foldl (fun F x=>cW F (nd ns x.toNat).l) F) z=lkF F z++bf ns r z:=by
  intro r
  induction r with
  | nil=>intro F h;exact ⟨h,fun z=>⟨by simp,by simp [bf]⟩⟩
  | cons x r ih =>
    intro F h
    obtain ⟨h1,h2⟩:=oW (fs:=(nd ns x.toNat).l) h
    obtain ⟨i1,i2⟩:=ih _ h1
    refine ⟨i1,fun z=>⟨?_,?_⟩⟩
    ·rw [List.foldl_cons,(i2 z).1,(h2 z).1,or_assoc]
     constructor
     ·rintro (h | h | ⟨y,hy,hz⟩)
      ·exact .inl h
      ·exact .inr ⟨x,List.mem_cons_self,h⟩
      ·exact .inr ⟨y,List.mem_cons_of_mem _ hy,hz⟩
     ·rintro (h | ⟨y,hy,hz⟩)
      ·exact .inl h
      ·rcases List.mem_cons.1 hy with rfl | hy
       ·exact .inr (.inl hz)
       ·exact .inr (.inr ⟨y,hy,hz⟩)
    ·rw [List.foldl_cons,(i2 z).2,(h2 z).2,List.append_assoc]
     simp [bf]
 obtain ⟨k1,k2⟩:=key l [] .nil
 exact ⟨k1,fun z=>⟨by rw [gy,(k2 z).1];simp,by rw [gy,(k2 z).2];simp [lkF]⟩⟩
def Cj (ns:List TN) (l:List Int):Prop:=∀ x∈l,((nd ns x.toNat).l.map (·.1)).Nodup
theorem zt {fs:List Fld} (h:(fs.map (·.1)).Nodup) (s:List UInt8):(fs.filter fun q=>q.1 == s).length=if fs.any (fun q=>q.1 == s) then 1 else 0:=by
 induction fs with
 | nil=>rfl
 | cons q r ih =>
   rw [List.map_cons,List.nodup_cons] at h
   rw [List.filter_cons,List.any_cons]
   cases hq:q.1 == s with
   | false=>rw [Bool.false_or];simpa using ih h.2
   | true =>
     have e:q.1=s:=by simpa using hq
     have hno:r.filter (fun q=>q.1 == s)=[]:=by
      rw [List.filter_eq_nil_iff]
      intro y hy
      have:y.1≠s:=fun e2=>h.1 (List.mem_map.2 ⟨y,hy,by rw [e2,e]⟩)
      simpa using this
     simp [hno]
theorem vK {ns:List TN} {l:List Int} (h:Cj ns l) (s:List UInt8):(bf ns l s).length=fI ns l s:=by
 unfold fI
 induction l with
 | nil=>rfl
 | cons x r ih =>
   have h1:=zt (h x List.mem_cons_self) s
   have h2:=ih fun y hy=>h y (List.mem_cons_of_mem _ hy)
   have e:bf ns (x::r) s=((nd ns x.toNat).l.filter fun q=>q.1 == s).map (·.2)++bf ns r s:=by simp [bf]
   rw [e,List.length_append,List.length_map,h1,h2,List.filter_cons,yr]
   cases (nd ns x.toNat).l.any (fun q=>q.1 == s) with
   | true=>simp;omega
   | false=>simp
noncomputable def dE (ns:List TN) (p:Bool) (l:List Int) (S:List (List UInt8)) (W:List Clu):List Fld × List Clu :=
 S.foldl (fun s k=>(s.1++[(k,((ak s.2 (ofC ns p (bf ns l k))).1:Int))],(ak s.2 (ofC ns p (bf ns l k))).2)) ([],W)
theorem zx {l:List (List UInt8)} (h:l.Nodup):eG (jh l):=by
 have h1:(jh l).Pairwise (·≤·):=by
  have:=List.pairwise_mergeSort (le:=fun x y:List UInt8=>decide (x≤y)) (fun a b c h1 h2=>by simpa using List.le_trans (by simpa using h1) (by simpa using h2)) (fun a b=>by simpa using List.le_total a b) l
  exact this.imp fun h=>by simpa using h
 have hn:(jh l).Nodup:=(List.mergeSort_perm l _).nodup_iff.2 h
 exact (h1.and hn).imp fun {a b} h=>wu (List.not_lt.2 h.1) h.2
theorem s6 {ns:List TN} {l:List Int} (h:Cj ns l) (p wh:Bool) (W:List Clu):fR ns p wh l W=dE ns p l (nmL ns l wh) W:=by
 obtain ⟨c1,c2⟩:=xV ns l
 obtain ⟨n1,n2⟩:=vX ns l wh
 have hS:nmL ns l wh=(jh ((gy ns l).map (·.1))).filter fun k=>(!wh || decide ((lkF (gy ns l) k).length=l.length)):=by
  refine rQ n1 ((zx c1).sublist List.filter_sublist) fun z=>?_
  rw [n2,List.mem_filter,jh,List.mem_mergeSort,(c2 z).1,(c2 z).2,vK h,Bool.or_comm]
  exact And.comm
 rw [hS]
 unfold fR sh dE
 rw [List.foldl_filter]
 congr 1
 funext s k
 rw [mw,(c2 k).2]
end Go.Proofs.YthfodompfpdmgaaGreatDoor

namespace Go.Proofs.YthfodompfpdmgaaGreatDoor
open Go.Ab
structure Plain (s:EA):Prop where
 ins:InS s
 fit:Fit s
 nice:Nice s
 nd:((e9 s).map (·.1)).Nodup
theorem tA {p:Nat→Bool} {n i:Nat} (h:(List.range n).all p=true) (hi:i<n):p i=true:=List.all_eq_true.1 h i (List.mem_range.2 hi)
theorem fa {l:List Fld} {i:Nat} (h:i<l.length):fnm l i=l[i].1:=by simp [fnm,h]
theorem rq {p:List UInt8→Bool} {l:List Fld} (h:hZ p l=true):(∀ q∈l,p q.1=true)∧(l.map (·.1)).Nodup:=by
 unfold hZ at h
 refine ⟨fun q hq=>?_,?_⟩
 ·obtain ⟨i,hi,rfl⟩:=List.getElem_of_mem hq
  have:=tA h hi
  rw [Bool.and_eq_true,fa hi] at this
  exact this.1
 ·have hs:∀ i,i+1<l.length→fnm l i<fnm l (i+1):=by
   intro i hi
   have:=tA h hi
   rw [Bool.and_eq_true] at this
   have h2:=this.2
   simp only [dQ,Nat.zero_lt_succ,decide_true,Bool.true_and,Bool.not_not,Nat.add_sub_cancel,bytesLess_eq,decide_eq_true_eq] at h2
   exact h2
  have hlt:∀ (d i:Nat),i+d+1<l.length→fnm l i<fnm l (i+d+1):=by
   intro d
   induction d with
   | zero=>exact fun i hi=>hs i hi
   | succ d ih=>exact fun i hi=>List.lt_trans (ih i (by omega)) (hs (i+d+1) hi)
  rw [List.Nodup,List.pairwise_iff_getElem]
  intro i j hi hj hij e
  rw [List.length_map] at hi hj
  have:=hlt (j-i-1) i (by omega)
  rw [show i+(j-i-1)+1=j by omega,fa hi,fa hj] at this
  rw [List.getElem_map,List.getElem_map] at e
  rw [e] at this
  exact List.lt_irrefl _ this
theorem xr (f:Int→Int) (s:EA):(e9 (s.mv f)).map (·.1)=(e9 s).map (·.1):=nk (D3 f s)
theorem Plain.mv {s:EA} (h:Plain s) (f:Int→Int):Plain (s.mv f):=by
 obtain ⟨h1,⟨a1,a2,a3,a4,a5,a6⟩,⟨b1,b2,b3⟩,h4⟩:=h
 refine ⟨Fc h1 f,⟨a1,a2,by simpa [EA.mv] using a3,by simpa [EA.mv] using a4,fun q hq=>?_,fun q hq=>?_⟩,⟨b1,fun q hq=>?_,fun q hq=>?_⟩,by rw [xr];exact h4⟩
 ·obtain ⟨x,hx,rfl⟩:=List.mem_map.1 hq;exact a5 x hx
 ·obtain ⟨x,hx,rfl⟩:=List.mem_map.1 hq;exact a6 x hx
 ·obtain ⟨x,hx,rfl⟩:=List.mem_map.1 hq;exact b2 x hx
 ·obtain ⟨x,hx,rfl⟩:=List.mem_map.1 hq;exact b3 x hx
theorem En {l:List EA} {k:Nat} {p:Bool} (h1:k<l.length) (h2:(l.getD k default).plus=p):onA l (k:Int) p=true:=by
 simp only [onA,Bool.and_eq_true,beq_iff_eq,decide_eq_true_eq,Int.toNat_natCast]
 exact ⟨⟨by omega,by omega⟩,h2⟩
theorem DV {l:List EA} {st:Nat} (h0:0<l.length) (h1:l.length≤2000) (hs:onA l (st:Int) true=true) (hr:∀ s∈l,cT l s=true):sZ l (st:Int)=0:=by
 unfold sZ
 rw [if_neg (by omega),if_neg]
 simp only [hs,Bool.not_true,Bool.false_or,List.any_eq_true,not_exists,not_and,Bool.not_eq_true',Bool.not_eq_false]
 exact hr
end Go.Proofs.YthfodompfpdmgaaGreatDoor

namespace Go.Proofs.YthfodompfpdmgaaGreatDoor
open Go.Ab
theorem sG {l:List Fld} (h:∀ i,i<l.length→dQ l i=false):eG (l.map (·.1)):=by
 have hs:∀ i,i+1<l.length→fnm l i<fnm l (i+1):=by
  intro i hi
  have h2:=h (i+1) hi
  simpa only [dQ,Nat.zero_lt_succ,decide_true,Bool.true_and,Bool.not_eq_false',Nat.add_sub_cancel,bytesLess_eq,decide_eq_true_eq] using h2
 have hlt:∀ (d i:Nat),i+d+1<l.length→fnm l i<fnm l (i+d+1):=by
  intro d
  induction d with
  | zero=>exact fun i hi=>hs i hi
  | succ d ih=>exact fun i hi=>List.lt_trans (ih i (by omega)) (hs (i+d+1) hi)
 rw [eG,List.pairwise_iff_getElem]
 intro i j hi hj hij
 rw [List.length_map] at hi hj
 have:=hlt (j-i-1) i (by omega)
 rw [show i+(j-i-1)+1=j by omega,fa hi,fa hj] at this
 rw [List.getElem_map,List.getElem_map]
 exact this
theorem sa {l:List Fld} (h:eG (l.map (·.1))):∀ i,i<l.length→dQ l i=false:=by
 intro i hi
 unfold dQ
 cases i with
 | zero=>simp
 | succ i =>
   have:=List.pairwise_iff_getElem.1 h i (i+1) (by rw [List.length_map];omega) (by rw [List.length_map];exact hi) (by omega)
   rw [List.getElem_map,List.getElem_map] at this
   rw [Nat.add_sub_cancel,fa hi,fa (show i<l.length by omega),bytesLess_eq,decide_eq_true this]
   simp
theorem CB {is:List UInt8→Bool} {l:List Fld} (h:eG (l.map (·.1))) (hi:∀ q∈l,is q.1=true):hZ is l=true:=by
 unfold hZ
 rw [List.all_eq_true]
 intro i hm
 have hil:=List.mem_range.1 hm
 rw [fa hil,hi _ (List.getElem_mem hil),sa h i hil]
 rfl
theorem uo {l:List (List UInt8)} (h:eG l):l.Nodup:=h.imp fun {a b} hab e=>by rw [e] at hab;exact mh hab
theorem kh {s:List UInt8} (h:bx s=true):s.length≤20:=by
 simp only [bx,Bool.and_eq_true,decide_eq_true_eq] at h
 exact h.1.2
structure Ty (ns:List TN) (root:Int):Prop where
 inn:Inn ns
 alls:Alls ns
 rt:okP ns root
 nm:∀ i,okP ns i→eG ((nd ns i.toNat).l.map (·.1))
 rc:∀ i,okP ns i→kdI ns i=7→∀ q∈(nd ns i.toNat).l,cE q.1=true
 tg:∀ i,okP ns i→kdI ns i=8→∀ q∈(nd ns i.toNat).l,fG q.1=true
 vr:∀ i,okP ns i→kdI ns i=11→0≤(nd ns i.toNat).a∧(nd ns i.toNat).a≤999
 fw:∀ n∈ns,n.l.length≤30
theorem ee {n:TN} {all:Int} (h:aU n all=true):n.l.length≤30∧eV n.k n.l=true∧(n.k=11→0≤n.a∧n.a≤999)∧(gL n.k=true∨n.l=[]):=by
 simp only [aU,Bool.and_eq_true,Bool.not_eq_true',Bool.or_eq_false_iff,Bool.not_eq_false',decide_eq_true_eq] at h
 obtain ⟨⟨⟨_,hv⟩,hw,hn⟩,_⟩:=h
 refine ⟨hn.2,hn.1,fun hk=>?_,?_⟩
 ·rw [hk] at hv
  simp only [decide_true,Bool.true_and,Bool.or_eq_false_iff,decide_eq_false_iff_not] at hv
  omega
 ·cases hz:gL n.k with
  | true=>exact .inl rfl
  | false =>
    rw [hz] at hw
    simp only [Bool.not_false,Bool.true_and,decide_eq_false_iff_not] at hw
    exact .inr (List.eq_nil_of_length_eq_zero (by omega))
theorem fm {k:Int} {l:List Fld} (h:eV k l=true):eG (l.map (·.1))∧(k=7→∀ q∈l,cE q.1=true)∧(k=8→∀ q∈l,fG q.1=true):=by
 unfold eV at h
 have h1:∀ i,i<l.length→lE k (fnm l i)=false∧dQ l i=false:=fun i hi=>by
  have:=tA h hi
  simpa only [Bool.and_eq_true,Bool.not_eq_true'] using this
 refine ⟨sG fun i hi=>(h1 i hi).2,fun hk q hq=>?_,fun hk q hq=>?_⟩
 ·obtain ⟨i,hi,rfl⟩:=List.getElem_of_mem hq
  have:=(h1 i hi).1
  rw [fa hi,lE,hk] at this
  simpa using this
 ·obtain ⟨i,hi,rfl⟩:=List.getElem_of_mem hq
  have:=(h1 i hi).1
  rw [fa hi,lE,hk] at this
  simpa using this
theorem Bk {ns:List TN} {root:Int} (h:ct ns root=0):Ty ns root:=by
 obtain ⟨⟨_,h2⟩,h4,h5,h6⟩:=qt h
 have hr:∀ i,okP ns i→aU (nd ns i.toNat) ns.length=true:=fun i hi=>iA h5 (by have:=hi.1;have:=hi.2;omega)
 have hk:∀ i,okP ns i→∀ x∈ay (nd ns i.toNat),okP ns x:=fun i hi x hx=>jm (hr i hi) x hx
 refine ⟨⟨h2,jq h5,by unfold gk at h6;simpa using h6⟩,⟨fun i hi hki=>?_,fun i hi=>?_⟩,h4,fun i hi=>(fm (ee (hr i hi)).2.1).1,
  fun i hi hki=>(fm (ee (hr i hi)).2.1).2.1 hki,fun i hi hki=>(fm (ee (hr i hi)).2.1).2.2 hki,fun i hi hki=>(ee (hr i hi)).2.2.1 hki,fun n hn=>?_⟩
 ·have hki:(nd ns i.toNat).k=6:=hki
  have h1:=hk i hi
  rw [ay,hki,if_pos (by decide)] at h1
  exact ⟨h1 _ (by simp),h1 _ (by simp)⟩
 ·obtain ⟨g1,g2,_,g4⟩:=ee (hr i hi)
  refine ⟨by omega,fun q hq=>?_⟩
  rcases g4 with g4 | g4
  ·have hnp:gl (nd ns i.toNat).k=false:=by
    simp only [gL,Bool.or_eq_true,decide_eq_true_eq] at g4
    rcases g4 with g4 | g4<;>rw [g4]<;>decide
   have h1:=hk i hi
   rw [ay,hnp,if_neg (by simp),if_pos g4] at h1
   refine ⟨?_,h1 _ (List.mem_map.2 ⟨q,hq,rfl⟩)⟩
   simp only [gL,Bool.or_eq_true,decide_eq_true_eq] at g4
   rcases g4 with g4 | g4
   ·have:=(fm g2).2.1 g4 q hq
    rw [cE,Bool.and_eq_true,Bool.and_eq_true] at this
    have:=kh this.1.1
    omega
   ·have:=(fm g2).2.2 g4 q hq
    rw [fG,Bool.and_eq_true] at this
    have:=kh this.1
    omega
  ·rw [g4] at hq;cases hq
 ·obtain ⟨i,hi,rfl⟩:=List.getElem_of_mem hn
  have:=(ee (iA h5 hi)).1
  rw [jc hi] at this
  exact this
theorem Ty.sv {ns:List TN} {root:Int} (h:Ty ns root) {l:List Int} (hl:∀ x∈l,okP ns x):Cj ns l:=fun x hx=>uo (h.nm x (hl x hx))
end Go.Proofs.YthfodompfpdmgaaGreatDoor

namespace Go.Proofs.YthfodompfpdmgaaGreatDoor
open Go.Ab
variable {t:TypeId} {fz:Nat × Nat}
noncomputable def pI (n:Int):Int:=if 2000<n then 2000 else n
noncomputable def jw (ns:List TN) (root n:Int):Option (List EA):=dW ns (pI n) 2001 [] (ak [] (ofC ns true [root])).2
def tn:Option (List EA)→AV
 | some L=>.tup [.d (auD L 0),.d (i64 0)]
 | none=>.tup [.d (.agg [.nils,i64 0]),.d (i64 8)]
set_option maxHeartbeats 8000000 in
theorem yg (ns:List TN) (root n:Int) (hs:Sane ns) (h:Inn ns) (ha:Alls ns) (hr:okP ns root) (hm:ct ns root=0) (hp:∀ l,Spots ns root l→cj ns l=true) :
  HP Tryz.prog (GT t fz) 7 [aF ns root,i64 n] (fun r=>r=tn (jw ns root n)):=by
 have c0:=BO (G:=GT t fz) ns root hs
 have hk1:∀ x∈[root],okP ns x:=fun x hx=>by rw [List.mem_singleton.1 hx];exact hr
 have c1:=pP (G:=GT t fz) ns root h true [root] (by simp) hk1
 have o1:=j3 h (p:=true) hk1
 have m1:=jl h (p:=true) hk1
 generalize hR:jw ns root n=R
 unfold jw at hR
 generalize ofC ns true [root]=C at c1 o1 m1 hR
 have c2:=qq (t:=t) (fz:=fz) ns root [] false C o1 (by simp)
 have w1:=gZ (ns:=ns) (W:=[]) (c:=C) (fun _ h=>by cases h) m1
 have l1:=cx [] C
 generalize ak [] C=P at c2 w1 l1 hR
 unfold aF at c0 ⊢
 refine aP Tryz.func7 rfl (by decide +kernel) (by simp [Tryz.ntmps7]) (veil fun E=>?_)
 simp only [go_sem]
 refine ae E c0 rfl rfl (by simp) ?_
 rintro _ (⟨h1,_⟩ | ⟨_,l,rfl,hl⟩)
 ·exact absurd hm h1
 rw [hp l hl]
 simp only [go_sem]
 generalize hN:(if 2000<n then (2000:Int) else n)=N
 have hNl:N≤2000:=by rw [← hN];split<;>omega
 rw [show pI n=N from hN] at hR
 refine kE E (by simp only [go_sem]) (by rw [aa];decide) ?_
 simp only [go_sem]
 rw [show cH C=.agg [.bool C.1,.bool C.2.1,.sl none (C.2.2.map i64)] from rfl] at c2
 unfold bO at c2
 refine bA E [.A [25] none [i64 root],.U [20] [.sl (some 4) (ns.map ah),i64 root,.unk,.unk,.unk],.B [20] (bD ns root)] [.ptr (bD ns root),.bool true,.sl none [i64 root]] c1 ?_ ?_ rfl ?_ ⟨by simp only [go_sem],by first | (rw [aa];decide) | (simp only [go_sem]<;>(try rw [aa])<;>decide)⟩ ?_
 ·rintro r hp' ⟨rfl,rfl⟩
  exact ⟨rfl,by simp [bT,Ob.flat,bU]⟩
 ·unfold bD
  simp only [go_sem]
  refine ⟨_,rfl,?_⟩
  simp only [go_sem]
  exact ⟨.inr trivial,.inr trivial⟩
 ·unfold bD
  simp only [go_sem]
 rintro _ _ ⟨rfl,rfl⟩
 simp only [go_sem]
 refine bt E [26,0] none (C.2.2.map i64) rfl rfl ?_
 refine kc E [20] 3 97 (some 3) [.d (.sl (some 4) (ns.map ah)),.d (i64 root),.mp [18],.d .nils,.d (.bool false)] rfl rfl (by show ¬ _∈[26,25,20,18,4,2];decide) rfl ?_
 refine aM E (tau [([0],[20]),([1],[18]),([2],[97])]) _ _ _ c2 rfl (by simp only [go_sem]) ⟨by simp only [go_sem],by first | (rw [aa];decide) | (simp only [go_sem]<;>(try rw [aa])<;>decide)⟩ rfl (by simp only [go_sem];rfl) (by simp only [go_sem]) ?_
 rintro _ _ ⟨rfl,rfl⟩
 refine ⟨by simp only [go_sem];try simp,?_⟩
 simp only [go_sem]
 refine cR E [8] 0 96 (some 13) [.d .nils,.d (i64 0)] rfl rfl (by rw [aa];decide) ?_
 simp only [go_sem]
 refine au E (X:={ x:List EA × List Clu // WOk ns x.2∧x.2.length≤2000∧x.1.length≤2000∧dW ns N (2001-x.1.length) x.1 x.2=R }) (fun x=>[(1,.d (i64 N)),(4,.bx [4] 0),(7,.bx [20] 0),(8,.bx [8] 0)])
  (fun x=>[([4],.box [.d .nils,.d (i64 0)]),([8],.box [.vw [96] 0 x.1.1.length,.d (i64 0)]),([96],.arr (some 13) (x.1.1.map stD)),([20],.box [.d (.sl (some 4) (ns.map ah)),.d (i64 root),.mp [18],.vw [95] 0 x.1.2.length,.d (.bool false)]),([18],.map (menc (fun l:List UInt8=>D.str l) (atM 0 x.1.2))),([95],.arr (some 3) (x.1.2.map cH))])
  [95,96,8,20,18,4] (fun x=>2001-x.1.1.length) ⟨([],P.2),w1,by show P.2.length≤2000;simp only [List.length_nil] at l1;omega,Nat.zero_le _,hR⟩ (tau [([95],[27,6])]) ?_ ?_
 ·simp only [go_sem]
  all_goals first | rfl | ((repeat' apply And.intro)<;>first | rfl | trivial)
 rintro ⟨⟨L,W⟩,hw,hwl,hlw,hb⟩ E0
 refine aR E0 fun Q' hQ E'=>?_
 simp only at hw hwl hlw hb ⊢
 simp only [go_sem]
 refine ag mixed E' fun X=>?_
 simp only [go_sem]
 refine aI X [20] 0 none [.d (.sl (some 4) (ns.map ah)),.d (i64 root),.mp [18],.vw [95] 0 W.length,.d (.bool false)] (by simp only [go_sem]) rfl rfl ?_
 simp only [go_sem]
 refine ⟨by decide +kernel,?_⟩
 refine ai E' (fun h1=>?_) (fun h1=>?_)<;>simp only [go_sem]
 ·have hl:L.length<W.length:=by omega
  obtain ⟨f,hf⟩:∃ f,2001-L.length=f+1:=⟨2000-L.length,by omega⟩
  rw [hf,dW,dif_pos hl] at hb
  refine ag mixed E' fun X=>?_
  simp only [go_sem]
  refine aI X [20] 0 none [.d (.sl (some 4) (ns.map ah)),.d (i64 root),.mp [18],.vw [95] 0 W.length,.d (.bool false)] (by simp only [go_sem]) rfl rfl ?_
  simp only [go_sem]
  refine ⟨by omega,?_⟩
  rw [show (W.map cH).getD L.length .nilp=.agg [.bool W[L.length].1,.bool W[L.length].2.1,.sl none (W[L.length].2.2.map i64)] by simp [hl,cH]]
  simp only [go_sem]
  have hmo:=hw _ (List.getElem_mem hl)
  have ws:=pe h ha hw hmo
  have c3:=Fk (t:=t) (fz:=fz) ns root W false W[L.length] h (fun x hx=>by
   obtain ⟨i,hi,rfl⟩:=List.getElem_of_mem hx
   have:=(ha.fd (i:Int) ⟨by omega,by omega⟩).1
   rwa [Int.toNat_natCast,jc hi] at this) (hmo.kids ha) (by omega)
  rw [show cH W[L.length]=.agg [.bool W[L.length].1,.bool W[L.length].2.1,.sl none (W[L.length].2.2.map i64)] from rfl] at c3
  generalize W[L.length]=c at c3 ws hb hmo
  generalize bV ns c W=Y at c3 ws hb
  unfold bO at c3
  rw [bb,Bool.false_or] at c3
  refine l6 X (tau [([0],[20]),([1],[18]),([2],[95])]) _ _ _ _ _ c3 rfl (by simp only [go_sem];try rfl) ⟨by simp only [go_sem],by first | (rw [aa];decide) | (simp only [go_sem]<;>(try rw [aa])<;>decide)⟩ (by simp only [go_sem]) (by simp only [go_sem]) (by simp only [go_sem];try decide) (by simp only [go_sem];try omega) ?_
  simp only [go_sem]
  refine ⟨by omega,?_⟩
  refine ⟨by decide +kernel,?_⟩
  generalize (decide (30<Y.1.fl.length) || decide (30<Y.1.tl.length))=B at hb ⊢
  cases B with
  | true =>
    rw [Bool.true_or,if_pos rfl] at hb
    subst hb
    simp only [go_sem]
    rw [hQ]
    simp only [go_sem]
    refine ⟨[],?_⟩
    simp only [go_sem]
    rfl
  | false =>
    rw [Bool.false_or] at hb
    simp only [go_sem]
    refine ai E' (fun h2=>?_) (fun h2=>?_)<;>simp only [go_sem]
    ·rw [if_pos (decide_eq_true h2)] at hb
     subst hb
     rw [hQ]
     simp only [go_sem]
     refine ⟨[],?_⟩
     simp only [go_sem]
     rfl
    ·rw [if_neg (by rw [decide_eq_false h2];simp)] at hb
     rw [hQ]
     refine ⟨⟨(L++[Y.1],Y.2),ws,by show Y.2.length≤2000;omega,?_,?_⟩,?_,tau [([96],[51]),([95],[49,6])],?_⟩
     ·show (L++[Y.1]).length≤2000
      simp
      omega
     ·show dW ns N (2001-(L++[Y.1]).length) (L++[Y.1]) Y.2=R
      rw [show 2001-(L++[Y.1]).length=f by simp;omega]
      exact hb
     ·show 2001-(L++[Y.1]).length<2001-L.length
      simp
      omega
     ·simp only [go_sem]
      rw [List.map_append,List.length_append]
      exact ⟨rfl,rfl⟩
 ·have hle:¬ L.length<W.length:=by omega
  obtain ⟨f,hf⟩:∃ f,2001-L.length=f+1:=⟨2000-L.length,by omega⟩
  rw [hf,dW,dif_neg hle] at hb
  subst hb
  rw [hQ]
  simp only [go_sem]
  refine ⟨[([96],some 13,L.map stD)],?_⟩
  simp only [go_sem]
  rfl
end Go.Proofs.YthfodompfpdmgaaGreatDoor

namespace Go.Proofs.YthfodompfpdmgaaGreatDoor
open Go.Ab
def gq (W:List Clu):Prop:=∀ d∈W,iw d
def Pre (W V:List Clu):Prop:=∃ t,V=W++t
theorem Pre.rf (W:List Clu):Pre W W:=⟨[],by simp⟩
theorem Pre.tr {U V W:List Clu} (h1:Pre U V) (h2:Pre V W):Pre U W:=by
 obtain ⟨a,rfl⟩:=h1
 obtain ⟨b,rfl⟩:=h2
 exact ⟨a++b,by rw [List.append_assoc]⟩
theorem Pre.len {U V:List Clu} (h:Pre U V):U.length≤V.length:=by
 obtain ⟨a,rfl⟩:=h
 rw [List.length_append];omega
theorem Pre.get {U V:List Clu} (h:Pre U V) {i:Nat} (hi:i<U.length):V.getD i default=U.getD i default:=by
 obtain ⟨a,rfl⟩:=h
 rw [List.getD_eq_getElem?_getD,List.getD_eq_getElem?_getD,List.getElem?_append_left hi]
def inW (W:List Clu) (k:Int) (p:Bool):Prop:=0≤k∧k.toNat<W.length∧(W.getD k.toNat default).1=p
theorem inW.up {W V:List Clu} {k:Int} {p:Bool} (h:inW W k p) (hp:Pre W V):inW V k p:=⟨h.1,Nat.lt_of_lt_of_le h.2.1 hp.len,by rw [hp.get h.2.1];exact h.2.2⟩
theorem o6 {c:Clu}:∀ {W:List Clu} {n i:Nat},oa c n W=some i→∃ j,i=n+j∧j<W.length∧W.getD j default=c
 | [],_,_,h=>by cases h
 | d::r,n,i,h=>by
   rw [oa] at h
   by_cases e:d=c
   ·rw [if_pos e] at h
    exact ⟨0,by simpa using h.symm,by simp,by simpa using e⟩
   ·rw [if_neg e] at h
    obtain ⟨j,h1,h2,h3⟩:=o6 h
    exact ⟨j+1,by omega,by simpa using h2,by simpa using h3⟩
theorem AR {W:List Clu} {c:Clu} (hc:iw c) (hW:gq W):inW (ak W c).2 ((ak W c).1:Nat) c.1∧Pre W (ak W c).2∧gq (ak W c).2:=by
 unfold ak
 cases hp:plc (fS c) 0 W with
 | some i =>
   rw [qg hc 0 hW] at hp
   obtain ⟨j,h1,h2,h3⟩:=o6 hp
   have e:i=j:=by omega
   subst e
   exact ⟨⟨by simp only;omega,by simpa using h2,by simpa using congrArg Prod.fst h3⟩,.rf _,hW⟩
 | none =>
   refine ⟨⟨by simp only;omega,by simp,by simp⟩,⟨[c],rfl⟩,fun d hd=>?_⟩
   rcases List.mem_append.1 hd with hd | hd
   ·exact hW d hd
   ·rw [List.mem_singleton.1 hd];exact hc
theorem jI {ns:List TN} (h:Inn ns) {W:List Clu} (hW:gq W) {p:Bool} {l:List Int} (hk:∀ x∈l,okP ns x):inW (ak W (ofC ns p l)).2 ((ak W (ofC ns p l)).1:Nat) p∧Pre W (ak W (ofC ns p l)).2∧gq (ak W (ofC ns p l)).2:=by
 have:=AR (oK h hk (p:=p)) hW
 rwa [vT] at this
theorem Ce {ns:List TN} (h:Inn ns) {W:List Clu} (hW:gq W) {p:Bool} {l:List Int} (hka:∀ x∈l,okP ns (nd ns x.toNat).a) (hkb:∀ x∈l,okP ns (nd ns x.toNat).b) :
  (inW (fB ns p l W).2 ((fB ns p l W).1.1:Nat) (!p)∧inW (fB ns p l W).2 ((fB ns p l W).1.2:Nat) p)∧Pre W (fB ns p l W).2∧gq (fB ns p l W).2:=by
 have h1:∀ x∈l.map (fun x=>(nd ns x.toNat).a),okP ns x:=fun x hx=>by
  obtain ⟨y,hy,rfl⟩:=List.mem_map.1 hx
  exact hka y hy
 have h2:∀ x∈l.map (fun x=>(nd ns x.toNat).b),okP ns x:=fun x hx=>by
  obtain ⟨y,hy,rfl⟩:=List.mem_map.1 hx
  exact hkb y hy
 obtain ⟨a1,a2,a3⟩:=jI h hW (p:=!p) h1
 obtain ⟨b1,b2,b3⟩:=jI h a3 (p:=p) h2
 exact ⟨⟨a1.up b2,b1⟩,a2.tr b2,b3⟩
theorem tC {ns:List TN} (h:Alls ns) {l:List Int} (hl:∀ x∈l,okP ns x) (s:List UInt8):∀ x∈bf ns l s,okP ns x:=fun x hx=>by
 obtain ⟨y,hy,hxy⟩:=List.mem_flatMap.1 hx
 obtain ⟨q,hq,rfl⟩:=List.mem_map.1 hxy
 exact ((h.fd y (hl y hy)).2 q (List.mem_filter.1 hq).1).2
theorem C6 {ns:List TN} (h:Inn ns) (ha:Alls ns) {p:Bool} {l:List Int} (hl:∀ x∈l,okP ns x) {W:List Clu} (hW:gq W) (S:List (List UInt8)) :
  (∀ q∈(dE ns p l S W).1,inW (dE ns p l S W).2 q.2 p)∧Pre W (dE ns p l S W).2∧gq (dE ns p l S W).2∧(dE ns p l S W).1.map (·.1)=S:=by
 have key:∀ (S:List (List UInt8)) (s:List Fld × List Clu),(∀ q∈s.1,inW s.2 q.2 p)→gq s.2 →
   (∀ q∈(S.foldl (fun s k=>(s.1++[(k,((ak s.2 (ofC ns p (bf ns l k))).1:Int))],(ak s.2 (ofC ns p (bf ns l k))).2)) s).1,inW (S.foldl (fun s k=>(s.1++[(k,((ak s.2 (ofC ns p (bf ns l k))).1:Int))],(ak s.2 (ofC ns p (bf ns l k))).2)) s).2 q.2 p) ∧
   Pre s.2 (S.foldl (fun s k=>(s.1++[(k,((ak s.2 (ofC ns p (bf ns l k))).1:Int))],(ak s.2 (ofC ns p (bf ns l k))).2)) s).2 ∧
   gq (S.foldl (fun s k=>(s.1++[(k,((ak s.2 (ofC ns p (bf ns l k))).1:Int))],(ak s.2 (ofC ns p (bf ns l k))).2)) s).2 ∧
   (S.foldl (fun s k=>(s.1++[(k,((ak s.2 (ofC ns p (bf ns l k))).1:Int))],(ak s.2 (ofC ns p (bf ns l k))).2)) s).1.map (·.1)=s.1.map (·.1)++S:=by
  intro S
  induction S with
  | nil=>intro s h1 h2;exact ⟨h1,.rf _,h2,by simp⟩
  | cons k r ih =>
    intro s h1 h2
    obtain ⟨a1,a2,a3⟩:=jI h h2 (p:=p) (tC ha hl k)
    obtain ⟨i1,i2,i3,i4⟩:=ih (s.1++[(k,((ak s.2 (ofC ns p (bf ns l k))).1:Int))],(ak s.2 (ofC ns p (bf ns l k))).2) (fun q hq=>by
     rcases List.mem_append.1 hq with hq | hq
     ·exact (h1 q hq).up a2
     ·rw [List.mem_singleton.1 hq];exact a1) a3
    exact ⟨i1,a2.tr i2,i3,by rw [List.foldl_cons,i4];simp⟩
 obtain ⟨k1,k2,k3,k4⟩:=key S ([],W) (by simp) hW
 exact ⟨k1,k2,k3,k4.trans (by simp)⟩
structure BD (W:List Clu) (s:EA):Prop where
 dc:s.arr=true→inW W s.dom (!s.plus)∧inW W s.cod s.plus
 to:∀ k∈r3 s,inW W k s.plus
 ba:gh s=true
 nu:nv s.vars=true
 fl:hZ cE s.fl=true
 tl:hZ fG s.tl=true
 vl:s.vars.length≤2000
theorem BD.up {W V:List Clu} {s:EA} (h:BD W s) (hp:Pre W V):BD V s:=⟨fun ha=>⟨(h.dc ha).1.up hp,(h.dc ha).2.up hp⟩,fun k hk=>(h.to k hk).up hp,h.ba,h.nu,h.fl,h.tl,h.vl⟩
theorem CK {l:List Int} (h:Ris l) (hb:∀ x∈l,0≤x∧x≤999):nv l=true:=by
 unfold nv
 rw [List.all_eq_true]
 intro i hm
 have hi:=List.mem_range.1 hm
 have h1:=hb _ (List.getElem_mem hi)
 have hg:l.getD i 0=l[i]:=by simp [hi]
 unfold rv
 rw [hg,decide_eq_true h1.1,decide_eq_true h1.2]
 cases i with
 | zero=>simp
 | succ i =>
   have h2:=List.pairwise_iff_getElem.1 h i (i+1) (by omega) hi (by omega)
   have hg2:l.getD (i+1-1) 0=l[i]:=by rw [Nat.add_sub_cancel];simp [show i<l.length by omega]
   rw [hg2,decide_eq_true h2]
   simp
theorem CT {ns:List TN} {root:Int} (h:Ty ns root) {W:List Clu} (hW:gq W) {c:Clu} (hc:gJ ns c) :
  (aB ns 6 c=true→inW (cG ns c W).2 ((cG ns c W).1.1:Nat) (!c.1)∧inW (cG ns c W).2 ((cG ns c W).1.2:Nat) c.1)∧Pre W (cG ns c W).2∧gq (cG ns c W).2∧(aB ns 6 c=false→(cG ns c W).1=(0,0)):=by
 unfold cG
 cases hk:aB ns 6 c with
 | false=>exact ⟨fun h=>(by cases h),.rf _,hW,fun _=>rfl⟩
 | true =>
   obtain ⟨h1,h2,h3⟩:=Ce h.inn hW (p:=c.1) (l:=aw ns 6 c.2.2) (fun x hx=>(h.alls.fn x (hc.2 x (aq hx).1) (aq hx).2).1) (fun x hx=>(h.alls.fn x (hc.2 x (aq hx).1) (aq hx).2).2)
   exact ⟨fun _=>h1,h2,h3,fun h=>(by cases h)⟩
theorem vW {ns:List TN} {root:Int} (h:Ty ns root) {W:List Clu} (hW:gq W) {c:Clu} (hc:gJ ns c) (k:Int) (wh:Bool) {is:List UInt8→Bool} (his:∀ i,okP ns i→kdI ns i=k→∀ q∈(nd ns i.toNat).l,is q.1=true) :
  (∀ q∈(bg ns c k wh W).1,inW (bg ns c k wh W).2 q.2 c.1)∧Pre W (bg ns c k wh W).2∧gq (bg ns c k wh W).2∧hZ is (bg ns c k wh W).1=true∧(aB ns k c=false→(bg ns c k wh W).1=[]):=by
 unfold bg
 cases hk:aB ns k c with
 | false=>exact ⟨fun q hq=>(by cases hq),.rf _,hW,rfl,fun _=>rfl⟩
 | true =>
   have hl:∀ x∈aw ns k c.2.2,okP ns x:=fun x hx=>hc.2 x (aq hx).1
   rw [if_pos rfl,s6 (h.sv hl)]
   obtain ⟨h1,h2,h3,h4⟩:=C6 h.inn h.alls (p:=c.1) hl hW (nmL ns (aw ns k c.2.2) wh)
   obtain ⟨n1,n2⟩:=vX ns (aw ns k c.2.2) wh
   refine ⟨h1,h2,h3,CB (by rw [h4];exact n1) fun q hq=>?_,fun h=>(by cases h)⟩
   have hm:q.1∈nmL ns (aw ns k c.2.2) wh:=by rw [← h4];exact List.mem_map.2 ⟨q,hq,rfl⟩
   obtain ⟨_,x,hx,hz⟩:=(n2 q.1).1 hm
   obtain ⟨f,hf,e⟩:=List.mem_map.1 hz
   rw [← e]
   exact his x (hl x hx) (aq hx).2 f hf
theorem mc:gp []=[]:=by
 have:=sF []
 exact List.eq_nil_of_length_eq_zero (by simpa using this)
theorem u4 {ns:List TN} {root:Int} (h:Ty ns root) {W:List Clu} (hW:gq W) {c:Clu} (hc:gJ ns c) (hn:iw c):BD (bV ns c W).2 (bV ns c W).1∧Pre W (bV ns c W).2∧gq (bV ns c W).2:=by
 obtain ⟨a1,a2,a3,a4⟩:=CT h hW hc
 obtain ⟨b1,b2,b3,b4,b5⟩:=vW h a3 hc 7 c.1 h.rc
 obtain ⟨c1,c2,c3,c4,c5⟩:=vW h b3 hc 8 (!c.1) h.tg
 refine ⟨⟨fun ha=>⟨((a1 ha).1.up b2).up c2,((a1 ha).2.up b2).up c2⟩,fun k hk=>?_,?_,?_,b4,c4,?_⟩,(a2.tr b2).tr c2,c3⟩
 ·rcases List.mem_append.1 hk with hk | hk
  ·obtain ⟨q,hq,rfl⟩:=List.mem_map.1 hk
   exact (b1 q hq).up c2
  ·obtain ⟨q,hq,rfl⟩:=List.mem_map.1 hk
   exact c1 q hq
 ·unfold gh bV
  simp only
  have e1:c.2.1=true→∀ k,aB ns k c=false:=fun he k=>by
   unfold aB
   rw [hn.2 he]
   rfl
  have e2:c.2.1=true→(gj ns (aw ns 11 c.2.2)).isEmpty=true:=fun he=>by
   rw [hn.2 he]
   show (gp []).isEmpty=true
   rw [mc];rfl
  have e3:aB ns 6 c=false→(((cG ns c W).1.1:Nat):Int)=0∧(((cG ns c W).1.2:Nat):Int)=0:=fun he=>by rw [a4 he];exact ⟨rfl,rfl⟩
  have e5:(aB ns 7 c || (bg ns c 7 c.1 (cG ns c W).2).1.isEmpty)=true:=by
   cases hk:aB ns 7 c with
   | true=>rfl
   | false=>rw [b5 hk];rfl
  have e6:(aB ns 8 c || (bg ns c 8 (!c.1) (bg ns c 7 c.1 (cG ns c W).2).2).1.isEmpty)=true:=by
   cases hk:aB ns 8 c with
   | true=>rfl
   | false=>rw [c5 hk];rfl
  rw [e5,e6]
  have e7:(!aB ns 6 c && (!decide ((((cG ns c W).1.1:Nat):Int)=0) || !decide ((((cG ns c W).1.2:Nat):Int)=0)))=false:=by
   cases hk:aB ns 6 c with
   | true=>rfl
   | false=>rw [decide_eq_true (e3 hk).1,decide_eq_true (e3 hk).2];rfl
  rw [e7]
  cases he:c.2.1 with
  | false=>rfl
  | true=>rw [e1 he,e1 he,e1 he,e1 he,e1 he,e1 he,e2 he];rfl
 ·refine CK (jz _) fun x hx=>?_
  have hx:=(nA _ x).1 hx
  obtain ⟨y,hy,rfl⟩:=List.mem_map.1 hx
  exact h.vr y (hc.2 y (aq hy).1) (aq hy).2
 ·have h1:=sF ((aw ns 11 c.2.2).map fun x=>(nd ns x.toNat).a)
  have h2:=bd ns 11 c.2.2
  have h3:=hc.1
  rw [List.length_map] at h1
  show (gp _).length≤2000
  omega
structure Blt (ns:List TN) (L:List EA) (W:List Clu):Prop where
 st:∀ s∈L,BD W s∧s.fl.length≤30∧s.tl.length≤30
 pl:∀ i,i<L.length→(L.getD i default).plus=(W.getD i default).1
 le:L.length≤W.length
 an:gq W
 wo:WOk ns W
theorem vz {ns:List TN} {root:Int} (h:Ty ns root) {n:Int}:∀ (f:Nat) {L:List EA} {W:List Clu} {R:List EA},Blt ns L W→(W.length:Int)≤n∨(L=[]∧0<W.length)→dW ns n f L W=some R→∃ V,Blt ns R V∧R.length=V.length∧Pre W V∧(V.length:Int)≤n
 | 0,L,W,R,_,_,hb=>by cases hb
 | f+1,L,W,R,hB,hn,hb=>by
   rw [dW] at hb
   by_cases hl:L.length<W.length
   ·rw [dif_pos hl] at hb
    have hcm:=List.getElem_mem hl
    obtain ⟨s1,s2,s3⟩:=u4 h hB.an (hB.wo _ hcm) (hB.an _ hcm)
    have s4:=pe h.inn h.alls hB.wo (hB.wo _ hcm)
    generalize hS:bV ns W[L.length] W=S at hb s1 s2 s3 s4
    have hpl:S.1.plus=W[L.length].1:=by rw [← hS];rfl
    split at hb
    ·cases hb
    ·rename_i hc
     simp only [Bool.or_eq_true,decide_eq_true_eq,not_or] at hc
     obtain ⟨V,v1,v2,v3,v4⟩:=vz h f (L:=L++[S.1]) (W:=S.2) ⟨fun s hs=>by
      rcases List.mem_append.1 hs with hs | hs
      ·exact ⟨(hB.st s hs).1.up s2,(hB.st s hs).2⟩
      ·rw [List.mem_singleton.1 hs];exact ⟨s1,by omega,by omega⟩,fun i hi=>by
      rw [List.length_append,List.length_singleton] at hi
      rw [s2.get (by omega)]
      rcases Nat.lt_or_ge i L.length with g | g
      ·rw [← hB.pl i g,List.getD_eq_getElem?_getD,List.getElem?_append_left g,List.getD_eq_getElem?_getD]
      ·have e:i=L.length:=by omega
       subst e
       rw [List.getD_eq_getElem?_getD,List.getElem?_concat_length,List.getD_eq_getElem?_getD,List.getElem?_eq_getElem hl]
       exact hpl,by have:=s2.len;rw [List.length_append,List.length_singleton];omega,s3,s4⟩ (.inl (by omega)) hb
     exact ⟨V,v1,v2,s2.tr v3,v4⟩
   ·rw [dif_neg hl] at hb
    obtain rfl:=Option.some.inj hb
    have:=hB.le
    refine ⟨W,hB,by omega,.rf _,?_⟩
    rcases hn with hn | ⟨rfl,hn⟩
    ·exact hn
    ·exact absurd hn (by simpa using hl)
theorem iK {ns:List TN} {n m:Int} (hnm:n≤m):∀ (f:Nat) {L:List EA} {W:List Clu} {R:List EA},dW ns n f L W=some R→dW ns m f L W=some R
 | 0,L,W,R,hb=>by cases hb
 | f+1,L,W,R,hb=>by
   rw [dW] at hb ⊢
   by_cases hl:L.length<W.length
   ·rw [dif_pos hl] at hb ⊢
    split at hb
    ·cases hb
    ·rename_i hc
     simp only [Bool.or_eq_true,decide_eq_true_eq,not_or] at hc
     rw [if_neg (by simp only [Bool.or_eq_true,decide_eq_true_eq,not_or];omega)]
     exact iK hnm f hb
   ·rw [dif_neg hl] at hb ⊢
    exact hb
theorem sX {ns:List TN} {root:Int} (h:Ty ns root):Blt ns [] (ak [] (ofC ns true [root])).2∧(ak [] (ofC ns true [root])).2=[ofC ns true [root]]:=by
 have hk:∀ x∈[root],okP ns x:=fun x hx=>by rw [List.mem_singleton.1 hx];exact h.rt
 have e:(ak [] (ofC ns true [root])).2=[ofC ns true [root]]:=rfl
 refine ⟨⟨by simp,by simp,Nat.zero_le _,?_,?_⟩,e⟩
 ·rw [e]
  intro d hd
  rw [List.mem_singleton.1 hd]
  exact oK h.inn hk
 ·rw [e]
  intro d hd
  rw [List.mem_singleton.1 hd]
  exact jl h.inn hk
theorem Fg {L:List EA} {W:List Clu} {k:Int} {p:Bool} (hl:L.length=W.length) (hp:∀ i,i<L.length→(L.getD i default).plus=(W.getD i default).1) (h:inW W k p):onA L k p=true:=by
 have h0:=h.1
 have h1:=h.2.1
 have h2:=h.2.2
 rw [show k=((k.toNat:Nat):Int) by omega]
 exact En (by omega) (by rw [hp _ (by omega)];exact h2)
theorem C7 {ns:List TN} {root n:Int} (h:Ty ns root) (hn:n≤2000) {f:Nat} {R:List EA} (hb:dW ns n f [] (ak [] (ofC ns true [root])).2=some R):sZ R 0=0∧(∀ s∈R,InS s)∧R.length≤2000:=by
 obtain ⟨g1,g2⟩:=sX h
 obtain ⟨V,v1,v2,v3,v4⟩:=vz h f g1 (.inr ⟨rfl,by rw [g2];simp⟩) hb
 have hlen:0<V.length:=by have:=v3.len;rw [g2] at this;exact this
 have hV0:(V.getD 0 default).1=true:=by rw [v3.get (by rw [g2];simp),g2];exact vT ns true [root]
 have hon:∀ {k:Int} {p:Bool},inW V k p→onA R k p=true:=fun hi=>Fg v2 v1.pl hi
 refine ⟨DV (st:=0) (by omega) (by omega) (hon ⟨Int.le_refl _,hlen,hV0⟩) fun s hs=>?_,fun s hs=>?_,by omega⟩
 ·obtain ⟨s1,s2,s3⟩:=v1.st s hs
  unfold cT
  rw [s1.ba,s1.nu,s1.fl,s1.tl,decide_eq_true s2,decide_eq_true s3]
  have e1:(s.arr && (!onA R s.dom (!s.plus) || !onA R s.cod s.plus))=false:=by
   cases ha:s.arr with
   | false=>rfl
   | true=>rw [hon (s1.dc ha).1,hon (s1.dc ha).2];rfl
  have e2:(r3 s).any (fun k=>!onA R k s.plus)=false:=by
   rw [List.any_eq_false]
   intro k hk
   rw [hon (s1.to k hk)]
   simp
  rw [e1,e2]
  rfl
 ·obtain ⟨s1,s2,s3⟩:=v1.st s hs
  refine ⟨by have:=s1.vl;omega,by omega,by omega,fun x hx=>?_,fun x hx=>?_⟩
  ·have:=(rq s1.fl).1 x hx
   rw [cE,Bool.and_eq_true,Bool.and_eq_true] at this
   have:=kh this.1.1
   omega
  ·have:=(rq s1.tl).1 x hx
   rw [fG,Bool.and_eq_true] at this
   have:=kh this.1
   omega
end Go.Proofs.YthfodompfpdmgaaGreatDoor

namespace Go.Proofs.YthfodompfpdmgaaGreatDoor
open Go.Ab
variable {t:TypeId} {fz:Nat × Nat}
def Al (ns:List TN) (root:Int) (e:Int):Prop:=e≠0∧(e=ct ns root∨(ct ns root=0∧e=12∧∃ l,Spots ns root l∧cj ns l=false))
theorem uB {G} (ns:List TN) (root n:Int) (hs:Sane ns) (h:ct ns root≠0∨∀ l,Spots ns root l→cj ns l=false) :
  HP Tryz.prog G 7 [aF ns root,i64 n] (fun r=>∃ e,Al ns root e∧r=.tup [.d (.agg [.nils,i64 0]),.d (i64 e)]):=by
 have c0:=BO (G:=G) ns root hs
 unfold aF at c0 ⊢
 refine aP Tryz.func7 rfl (by decide +kernel) (by simp [Tryz.ntmps7]) (veil fun E=>?_)
 simp only [go_sem]
 refine ae E c0 rfl rfl (by simp) ?_
 rintro r hr
 obtain ⟨e,he,rfl⟩:∃ e,Al ns root e∧r=.d (i64 e):=by
  rcases hr with ⟨h1,rfl⟩ | ⟨h0,l,rfl,hl⟩
  ·exact ⟨_,⟨h1,.inl rfl⟩,rfl⟩
  ·have hp:=(h.resolve_left (fun g=>g h0)) l hl
   rw [hp]
   exact ⟨12,⟨by decide,.inr ⟨h0,rfl,l,hl,hp⟩⟩,rfl⟩
 simp only [go_sem]
 refine ai E (fun g=>?_) (fun g=>?_)<;>simp only [go_sem]
 ·refine ⟨[],?_⟩
  simp only [go_sem]
  exact ⟨e,he,rfl⟩
 ·exact absurd (by simpa using g) he.1
theorem zr {G} (ns:List TN) (root:Int) (hs:Sane ns) (h:ct ns root≠0∨∀ l,Spots ns root l→cj ns l=false) :
  HP Tryz.prog G 8 [aF ns root] (fun r=>∃ e,Al ns root e∧r=.tup [.d (i64 0),.d (i64 e)]):=by
 have c:=uB (G:=G) ns root 2000 hs h
 unfold aF at c ⊢
 refine aP Tryz.func8 rfl (by decide +kernel) (by simp [Tryz.ntmps8]) (veil fun E=>?_)
 simp only [go_sem]
 refine ae E c rfl rfl (by simp) ?_
 rintro _ ⟨e,he,rfl⟩
 simp only [go_sem]
 refine ⟨[],?_⟩
 simp only [go_sem]
 exact ⟨e,he,rfl⟩
theorem Ei (ns:List TN) (root:Int) (hs:Sane ns) (h:Inn ns) (ha:Alls ns) (hr:okP ns root) (hm:ct ns root=0) (hp:∀ l,Spots ns root l→cj ns l=true) :
  HP Tryz.prog (GT t fz) 8 [aF ns root] (fun r=>r=match jw ns root 2000 with | some L=>.tup [.d (i64 L.length),.d (i64 0)] | none=>.tup [.d (i64 0),.d (i64 8)]):=by
 have c:=yg (t:=t) (fz:=fz) ns root 2000 hs h ha hr hm hp
 generalize jw ns root 2000=R at c ⊢
 unfold aF at c ⊢
 cases R with
 | some L =>
   unfold tn auD at c
   refine aP Tryz.func8 rfl (by decide +kernel) (by simp [Tryz.ntmps8]) (veil fun E=>?_)
   simp only [go_sem]
   refine ae E c rfl rfl (by simp) ?_
   rintro _ rfl
   simp only [go_sem]
   refine ⟨[],?_⟩
   simp only [go_sem]
 | none =>
   unfold tn at c
   refine aP Tryz.func8 rfl (by decide +kernel) (by simp [Tryz.ntmps8]) (veil fun E=>?_)
   simp only [go_sem]
   refine ae E c rfl rfl (by simp) ?_
   rintro _ rfl
   simp only [go_sem]
   refine ⟨[],?_⟩
   simp only [go_sem]
end Go.Proofs.YthfodompfpdmgaaGreatDoor

namespace Go.Proofs.YthfodompfpdmgaaGreatDoor
open Go.Ab
variable {t:TypeId} {fz:Nat × Nat}
def ns5:List TN:=[⟨11,0,0,[]⟩,⟨3,0,0,[]⟩,⟨10,0,1,[]⟩,⟨9,1,0,[]⟩,⟨6,2,3,[]⟩]
theorem Ed:Sane ns5:=⟨by decide,by intro n hn;simp [ns5] at hn;rcases hn with rfl | rfl | rfl | rfl | rfl<;>simp⟩
theorem D8:bF ns5=true:=by decide +kernel
theorem Hp:gk ns5=true:=js fun i hi=>by
 have hi:i<5:=hi
 have h0:Ends ns5 0:=.flat rfl
 have h1:Ends ns5 1:=.flat rfl
 have hc:i=0∨i=1∨i=2∨i=3∨i=4:=by omega
 rcases hc with rfl | rfl | rfl | rfl | rfl
 ·exact h0
 ·exact h1
 ·exact .both h0 h1
 ·exact .both h1 h0
 ·exact .flat rfl
theorem Et:ct ns5 4=0:=by
 unfold ct
 rw [D8,Hp]
 decide
theorem EL {l:List Spot} (h:Spots ns5 4 l):l=[(4,1),(2,2),(0,2),(1,2),(3,1),(1,1),(0,1)]:=by
 have hd:Dfs (bQ ns5) [] [(4,1)] [(4,1),(2,2),(0,2),(1,2),(3,1),(1,1),(0,1)]:=by
  have e1:bQ ns5 (4,1)=[(2,2),(3,1)]:=by decide +kernel
  have e2:bQ ns5 (2,2)=[(0,2),(1,2)]:=by decide +kernel
  have e3:bQ ns5 (0,2)=[]:=by decide +kernel
  have e4:bQ ns5 (1,2)=[]:=by decide +kernel
  have e5:bQ ns5 (3,1)=[(1,1),(0,1)]:=by decide +kernel
  have e6:bQ ns5 (1,1)=[]:=by decide +kernel
  have e7:bQ ns5 (0,1)=[]:=by decide +kernel
  refine Dfs.take (todo:=[]) (by decide) ?_
  rw [e1]
  refine Dfs.take (todo:=[(3,1)]) (by decide) ?_
  rw [e2]
  refine Dfs.take (todo:=[(3,1),(1,2)]) (by decide) ?_
  rw [e3]
  refine Dfs.take (todo:=[(3,1)]) (by decide) ?_
  rw [e4]
  refine Dfs.take (todo:=[]) (by decide) ?_
  rw [e5]
  refine Dfs.take (todo:=[(0,1)]) (by decide) ?_
  rw [e6]
  refine Dfs.take (todo:=[]) (by decide) ?_
  rw [e7]
  exact .done _
 exact h.1.fn hd
theorem yN (l:List Spot) (h:Spots ns5 4 l):cj ns5 l=true:=by
 rw [EL h]
 decide +kernel
theorem xn {ns:List TN} {i:Int} (h:cL ns i=false):cM ns [i]=[i]:=fk ⟨List.pairwise_singleton _ _,fun x=>by
 constructor
 ·intro hx
  rw [List.mem_singleton.1 hx]
  exact ⟨i,List.mem_cons_self,.flat h⟩
 ·rintro ⟨j,hj,ho⟩
  rw [List.mem_singleton.1 hj] at ho
  rw [ho.self h]
  exact List.mem_cons_self⟩
theorem sR {ns:List TN} {i:Int} (h:cL ns i=true) {S:List Int} (ha:cL ns (nd ns i.toNat).a=false) (hb:cL ns (nd ns i.toNat).b=false) (hS:Ris S) (hm:∀ x,x∈S↔x=(nd ns i.toNat).a∨x=(nd ns i.toNat).b):cM ns [i]=S:=fk ⟨hS,fun x=>by
 rw [hm]
 constructor
 ·rintro (rfl | rfl)
  ·exact ⟨i,List.mem_cons_self,.left h (.flat ha)⟩
  ·exact ⟨i,List.mem_cons_self,.right h (.flat hb)⟩
 ·rintro ⟨j,hj,ho⟩
  rw [List.mem_singleton.1 hj] at ho
  cases ho with
  | flat hf=>rw [h] at hf;cases hf
  | left _ t=>exact .inl (t.self ha)
  | right _ t=>exact .inr (t.self hb)⟩
def C50:Clu:=(true,false,[4])
def C51:Clu:=(false,false,[0,1])
def C52:Clu:=(true,false,[0,1])
def s50:EA:=⟨true,false,false,false,false,true,false,false,[],1,2,[],[]⟩
def s51:EA:=⟨false,false,true,false,false,false,false,false,[0],0,0,[],[]⟩
def s52:EA:=⟨true,false,true,false,false,false,false,false,[0],0,0,[],[]⟩
theorem Iw:ofC ns5 true [4]=C50:=by
 unfold ofC
 rw [xn (by decide +kernel)]
 decide +kernel
theorem Ip:ofC ns5 false [2]=C51:=by
 unfold ofC
 rw [sR (S:=[0,1]) (by decide +kernel) (by decide +kernel) (by decide +kernel) (by decide) (fun x=>by
  rw [show (nd ns5 (2:Int).toNat).a=0 from rfl,show (nd ns5 (2:Int).toNat).b=1 from rfl]
  simp)]
 decide +kernel
theorem HZ:ofC ns5 true [3]=C52:=by
 unfold ofC
 rw [sR (S:=[0,1]) (by decide +kernel) (by decide +kernel) (by decide +kernel) (by decide) (fun x=>by
  rw [show (nd ns5 (3:Int).toNat).a=1 from rfl,show (nd ns5 (3:Int).toNat).b=0 from rfl]
  simp
  exact Or.comm)]
 decide +kernel
theorem n50:iw C50:=⟨by decide,by decide⟩
theorem n51:iw C51:=⟨by decide,by decide⟩
theorem n52:iw C52:=⟨by decide,by decide⟩
theorem pl1:ak [C50] C51=(1,[C50,C51]):=jk n51 (fun d hd=>by rw [List.mem_singleton.1 hd];exact n50) (by decide)
theorem pl2:ak [C50,C51] C52=(2,[C50,C51,C52]):=jk n52 (fun d hd=>by
 rcases List.mem_cons.1 hd with rfl | hd
 ·exact n50
 ·rw [List.mem_singleton.1 hd];exact n51) (by decide)
theorem Bb (x:Int):gp [x]=[x]:=vV (List.pairwise_singleton _ _) fun _=>Iff.rfl
theorem HW:bV ns5 C50 [C50]=(s50,[C50,C51,C52]):=by
 have h3:aB ns5 3 C50=false:=by decide +kernel
 have h4:aB ns5 4 C50=false:=by decide +kernel
 have h5:aB ns5 5 C50=false:=by decide +kernel
 have h6:aB ns5 6 C50=true:=by decide +kernel
 have h7:aB ns5 7 C50=false:=by decide +kernel
 have h8:aB ns5 8 C50=false:=by decide +kernel
 have ha:cG ns5 C50 [C50]=((1,2),[C50,C51,C52]):=by
  unfold cG
  rw [h6,if_pos rfl,show aw ns5 6 C50.2.2=[4] by decide +kernel]
  unfold fB
  rw [show ([4]:List Int).map (fun x=>(nd ns5 x.toNat).a)=[2] from rfl,show ([4]:List Int).map (fun x=>(nd ns5 x.toNat).b)=[3] from rfl,show (!C50.1)=false from rfl,show C50.1=true from rfl,Ip,HZ,pl1,pl2]
 have hv:gj ns5 (aw ns5 11 C50.2.2)=[]:=by
  rw [show aw ns5 11 C50.2.2=[] by decide +kernel]
  exact mc
 unfold bV bg
 rw [h3,h4,h5,h6,h7,h8,ha,hv]
 rfl
theorem GM (c:Clu) (hc:c=C51∨c=C52) (W:List Clu):bV ns5 c W=(⟨c.1,false,true,false,false,false,false,false,[0],0,0,[],[]⟩,W):=by
 have hl:c.2.2=[0,1]∧c.2.1=false:=by rcases hc with rfl | rfl<;>exact ⟨rfl,rfl⟩
 have h3:aB ns5 3 c=true:=by unfold aB;rw [hl.1];decide +kernel
 have h4:aB ns5 4 c=false:=by unfold aB;rw [hl.1];decide +kernel
 have h5:aB ns5 5 c=false:=by unfold aB;rw [hl.1];decide +kernel
 have h6:aB ns5 6 c=false:=by unfold aB;rw [hl.1];decide +kernel
 have h7:aB ns5 7 c=false:=by unfold aB;rw [hl.1];decide +kernel
 have h8:aB ns5 8 c=false:=by unfold aB;rw [hl.1];decide +kernel
 have hv:gj ns5 (aw ns5 11 c.2.2)=[0]:=by
  rw [hl.1,show aw ns5 11 [0,1]=[0] by decide +kernel]
  exact Bb 0
 unfold bV cG bg
 rw [h3,h4,h5,h6,h7,h8,hv,hl.2]
 rfl
theorem GH:jw ns5 4 10=some [s50,s51,s52]:=by
 unfold jw
 rw [Iw,show (ak [] C50).2=[C50] from rfl,show pI 10=10 from rfl]
 rw [dW,dif_pos (by decide),show ([C50]:List Clu)[([]:List EA).length]'(by decide)=C50 from rfl,HW,if_neg (by decide)]
 rw [dW,dif_pos (by decide),show ([C50,C51,C52]:List Clu)[([]++[s50]:List EA).length]'(by decide)=C51 from rfl,GM C51 (.inl rfl),if_neg (by decide)]
 rw [dW,dif_pos (by decide),show ([C50,C51,C52]:List Clu)[([]++[s50]++[⟨C51.1,false,true,false,false,false,false,false,[0],0,0,[],[]⟩]:List EA).length]'(by decide)=C52 from rfl,GM C52 (.inr rfl),if_neg (by decide)]
 rw [dW,dif_neg (by decide)]
 rfl
theorem HB:jw ns5 4 2000=some [s50,s51,s52]:=iK (n:=10) (by decide) 2001 GH
def D6:D:=.agg [.sl (some 4) [.agg [i64 11,i64 0,i64 0,.nils],.agg [i64 3,i64 0,i64 0,.nils],.agg [i64 10,i64 0,i64 1,.nils],.agg [i64 9,i64 1,i64 0,.nils],.agg [i64 6,i64 2,i64 3,.nils]],i64 4]
theorem wk5:Wk D6 (aF ns5 4):=Dm ⟨⟨.nils,rfl,.inl ⟨rfl,rfl⟩⟩,⟨.nils,rfl,.inl ⟨rfl,rfl⟩⟩,⟨.nils,rfl,.inl ⟨rfl,rfl⟩⟩,⟨.nils,rfl,.inl ⟨rfl,rfl⟩⟩,⟨.nils,rfl,.inl ⟨rfl,rfl⟩⟩,trivial⟩
set_option maxHeartbeats 2000000 in
theorem nS:HP Tryz.prog (GT t fz) 10 [] (fun r=>r=.d (.bool true)):=by
 have ty:=Bk Et
 have c7:=(yg (t:=t) (fz:=fz) ns5 4 10 Ed ty.inn ty.alls ty.rt Et yN).wk (show WkL [D6,i64 10] [aF ns5 4,i64 10] from ⟨wk5,.refl _,trivial⟩)
 have c8:=(Ei (t:=t) (fz:=fz) ns5 4 Ed ty.inn ty.alls ty.rt Et yN).wk (show WkL [D6] [aF ns5 4] from ⟨wk5,trivial⟩)
 rw [GH,show tn (some [s50,s51,s52])=.tup [.d (.agg [.sl (some 13) [
  .agg [.bool true,.bool false,.bool false,.bool false,.bool false,.bool true,.bool false,.bool false,.sl none [],i64 1,i64 2,.sl (some 2) [],.sl (some 2) []],
  .agg [.bool false,.bool false,.bool true,.bool false,.bool false,.bool false,.bool false,.bool false,.sl none [i64 0],i64 0,i64 0,.sl (some 2) [],.sl (some 2) []],
  .agg [.bool true,.bool false,.bool true,.bool false,.bool false,.bool false,.bool false,.bool false,.sl none [i64 0],i64 0,i64 0,.sl (some 2) [],.sl (some 2) []]],i64 0]),.d (i64 0)] from rfl] at c7
 rw [HB] at c8
 unfold D6 at c7 c8
 refine ao Tryz.func10 rfl (by decide +kernel) (by simp [Tryz.ntmps10]) (veil fun E=>?_)
 simp only [go_sem]
 refine bt E [11] (some 4) _ rfl (by simp only [go_sem];rfl) ?_
 simp only [go_sem]
 refine ae E (c7) rfl rfl (by simp) ?_
 rintro _ rfl
 simp only [go_sem]
 refine ae E (c8) rfl rfl (by simp) ?_
 rintro _ rfl
 simp only [go_sem]
 rw [show ([.agg [.bool true,.bool false,.bool false,.bool false,.bool false,.bool true,.bool false,.bool false,.sl none [],i64 1,i64 2,.sl (some 2) [],.sl (some 2) []],.agg [.bool false,.bool false,.bool true,.bool false,.bool false,.bool false,.bool false,.bool false,.sl none [i64 0],i64 0,i64 0,.sl (some 2) [],.sl (some 2) []],.agg [.bool true,.bool false,.bool true,.bool false,.bool false,.bool false,.bool false,.bool false,.sl none [i64 0],i64 0,i64 0,.sl (some 2) [],.sl (some 2) []]]:List D).getD 1 .nilp=.agg [.bool false,.bool false,.bool true,.bool false,.bool false,.bool false,.bool false,.bool false,.sl none [i64 0],i64 0,i64 0,.sl (some 2) [],.sl (some 2) []] from rfl]
 simp only [go_sem]
 rw [show ([.agg [.bool true,.bool false,.bool false,.bool false,.bool false,.bool true,.bool false,.bool false,.sl none [],i64 1,i64 2,.sl (some 2) [],.sl (some 2) []],.agg [.bool false,.bool false,.bool true,.bool false,.bool false,.bool false,.bool false,.bool false,.sl none [i64 0],i64 0,i64 0,.sl (some 2) [],.sl (some 2) []],.agg [.bool true,.bool false,.bool true,.bool false,.bool false,.bool false,.bool false,.bool false,.sl none [i64 0],i64 0,i64 0,.sl (some 2) [],.sl (some 2) []]]:List D).getD 2 .nilp=.agg [.bool true,.bool false,.bool true,.bool false,.bool false,.bool false,.bool false,.bool false,.sl none [i64 0],i64 0,i64 0,.sl (some 2) [],.sl (some 2) []] from rfl]
 simp only [go_sem]
end Go.Proofs.YthfodompfpdmgaaGreatDoor

namespace Go.Proofs.YthfodompfpdmgaaGreatDoor
open Go.Ab
def bY (x:Int):List Int→Nat
 | []=>0
 | y::r=>if y<x then bY x r+1 else 0
theorem vM (x:Int):∀ l:List Int,bY x l≤l.length
 | []=>Nat.le_refl _
 | y::r=>by
   rw [bY]
   split
   ·exact Nat.succ_le_succ (vM x r)
   ·exact Nat.zero_le _
theorem l4 {x:Int}:∀ {l:List Int} {i:Nat} (h:i<l.length),i<bY x l→l[i]<x
 | [],i,h,_=>absurd h (Nat.not_lt_zero _)
 | y::r,i,h,hi=>by
   rw [bY] at hi
   split at hi
   ·rename_i hy
    cases i with
    | zero=>exact hy
    | succ i=>exact l4 (l:=r) (by simpa using h) (by omega)
   ·exact absurd hi (Nat.not_lt_zero _)
theorem l5 {x:Int}:∀ {l:List Int} (h:bY x l<l.length),x≤l[bY x l]
 | [],h=>absurd h (Nat.not_lt_zero _)
 | y::r,h=>by
   by_cases hy:y<x
   ·have e:bY x (y::r)=bY x r+1:=by rw [bY,if_pos hy]
    have h':bY x r<r.length:=by rw [e] at h;simpa using h
    have:=l5 h'
    simp only [e,List.getElem_cons_succ]
    exact this
   ·have e:bY x (y::r)=0:=by rw [bY,if_neg hy]
    simp only [e,List.getElem_cons_zero]
    omega
def eD (l:List Int) (x:Int):List Int:=if x∈l then l else l.take (bY x l)++x::l.drop (bY x l)
theorem Ar (l:List Int) (x z:Int):z∈eD l x↔z∈l∨z=x:=by
 unfold eD
 split
 ·rename_i h
  exact ⟨.inl,fun g=>g.elim id fun e=>e ▸ h⟩
 ·rw [List.mem_append,List.mem_cons]
  have:=List.take_append_drop (bY x l) l
  have hm:z∈l↔z∈l.take (bY x l)∨z∈l.drop (bY x l):=by rw [← List.mem_append,this]
  rw [hm]
  constructor
  ·rintro (h | rfl | h)
   ·exact .inl (.inl h)
   ·exact .inr rfl
   ·exact .inl (.inr h)
  ·rintro ((h | h) | rfl)
   ·exact .inl h
   ·exact .inr (.inr h)
   ·exact .inr (.inl rfl)
theorem BM {l:List Int} (h:Ris l) (x:Int):Ris (eD l x):=by
 unfold eD
 split
 ·exact h
 ·rename_i hx
  have h1:∀ z∈l.take (bY x l),z<x:=fun z hz=>by
   obtain ⟨i,hi,rfl⟩:=List.getElem_of_mem hz
   rw [List.length_take] at hi
   rw [List.getElem_take]
   exact l4 (by omega) (by omega)
  have h2:∀ z∈l.drop (bY x l),x<z:=fun z hz=>by
   obtain ⟨i,hi,rfl⟩:=List.getElem_of_mem hz
   rw [List.length_drop] at hi
   have h3:=l5 (x:=x) (l:=l) (by omega)
   have hne:l[bY x l]'(by omega)≠x:=fun e=>hx (e ▸ List.getElem_mem _)
   rw [List.getElem_drop]
   cases i with
   | zero=>simp only [Nat.add_zero];omega
   | succ i =>
     have:=List.pairwise_iff_getElem.1 h (bY x l) (bY x l+(i+1)) (by omega) (by omega) (by omega)
     omega
  rw [Ris,List.pairwise_append]
  refine ⟨h.sublist (List.take_sublist _ _),List.pairwise_cons.2 ⟨h2,h.sublist (List.drop_sublist _ _)⟩,fun a ha b hb=>?_⟩
  have:=h1 a ha
  rcases List.mem_cons.1 hb with rfl | hb
  ·exact this
  ·have:=h2 b hb;omega
theorem sL (l:List Int):l.foldl eD []=gp l:=by
 have key:∀ (r a:List Int),Ris a→Ris (r.foldl eD a)∧∀ z,z∈r.foldl eD a↔z∈a∨z∈r:=by
  intro r
  induction r with
  | nil=>intro a ha;exact ⟨ha,by simp⟩
  | cons x r ih =>
    intro a ha
    obtain ⟨i1,i2⟩:=ih (eD a x) (BM ha x)
    refine ⟨i1,fun z=>?_⟩
    rw [List.foldl_cons,i2,Ar,List.mem_cons]
    constructor
    ·rintro ((h | h) | h)
     ·exact .inl h
     ·exact .inr (.inl h)
     ·exact .inr (.inr h)
    ·rintro (h | h | h)
     ·exact .inl (.inl h)
     ·exact .inl (.inr h)
     ·exact .inr h
 obtain ⟨k1,k2⟩:=key l [] .nil
 exact (vV k1 fun x=>by rw [k2];simp).symm
end Go.Proofs.YthfodompfpdmgaaGreatDoor

namespace Go.Proofs.YthfodompfpdmgaaGreatDoor
open Go.Ab
theorem wA {l:List Int} (h:Ris l) {x:Int} (hn:∀ hi:bY x l<l.length,l[bY x l]≠x):x ∉ l:=fun hm=>by
 obtain ⟨k,hk,hkx⟩:=List.getElem_of_mem hm
 have h1:¬ k<bY x l:=fun g=>by have:=l4 hk g;omega
 have hp:bY x l<l.length:=by omega
 have h2:=l5 hp
 have h3:=hn hp
 rcases Nat.lt_or_ge (bY x l) k with g | g
 ·have:=List.pairwise_iff_getElem.1 h (bY x l) k hp hk g
  omega
 ·have e:k=bY x l:=by omega
  subst e
  exact h3 hkx
set_option maxHeartbeats 4000000 in
theorem yT {G} (l:List Int) (hl:l.length≤1000000000):HP Tryz.prog G 58 [aj l] (fun r=>r=.d (aj (gp l))):=by
 refine fc ?_
 unfold aj
 refine aP Tryz.func58 rfl (by decide +kernel) (by simp [Tryz.ntmps58]) (veil fun E=>?_)
 simp only [go_sem]
 refine au E (X:={ x:Nat × List Int // x.1≤l.length∧x.2=(l.take x.1).foldl eD []∧x.2.length≤x.1 }) (fun x=>[(0,.d (.sl none (l.map i64))),(3,.vw [98] 0 x.1.2.length),(4,.d (i64 x.1.1))])
  (fun x=>[([98],.arr none (x.1.2.map i64))]) [98] (fun x=>l.length-x.1.1) ⟨(0,[]),Nat.zero_le _,rfl,Nat.le_refl _⟩ (tau [([98],[6])]) ?_ ?_
 ·simp only [go_sem]
  all_goals first | rfl | ((repeat' apply And.intro)<;>first | rfl | trivial)
 rintro ⟨⟨j,out⟩,hj,ho,hol⟩ E0
 refine aR E0 fun Q' hQ E'=>?_
 simp only at hj ho hol ⊢
 simp only [go_sem]
 refine ai E' (fun h1=>?_) (fun h1=>?_)<;>simp only [go_sem]
 ·have hj':j<l.length:=by omega
  have hgx:(l.map i64).getD j .nilp=i64 l[j]:=aD hj'
  generalize hx:l[j]=x at hgx
  have hpl:=vM x out
  have hris:Ris out:=by rw [ho,sL];exact jz _
  have hnx:(l.take (j+1)).foldl eD []=eD out x:=by rw [List.take_succ_eq_append_getElem hj',List.foldl_append,← ho,hx];rfl
  refine au E' (X:={ i:Nat // i≤bY x out }) (fun y=>[(0,.d (.sl none (l.map i64))),(3,.vw [98] 0 out.length),(4,.d (i64 j)),(5,.d (i64 y.1))])
   (fun _=>[([98],.arr none (out.map i64))]) [98] (fun y=>out.length-y.1) ⟨0,Nat.zero_le _⟩ id ?_ ?_
  ·simp only [go_sem]
   all_goals first | rfl | ((repeat' apply And.intro)<;>first | rfl | trivial)
  rintro ⟨i,hi⟩ E1
  refine aR E1 fun Q2 hQ2 E2=>?_
  simp only at hi ⊢
  simp only [go_sem]
  refine ag mixed E2 fun X=>?_
  simp only [go_sem]
  refine cQ X (fun h2=>?_) (fun h2=>?_)<;>simp only [go_sem]
  ·have hio:i<out.length:=by omega
   refine ⟨by omega,?_⟩
   rw [aD hio]
   simp only [go_sem]
   refine ⟨by omega,?_⟩
   rw [hgx]
   simp only [go_sem]
   refine ⟨by decide +kernel,?_⟩
   refine ai E2 (fun h3=>?_) (fun h3=>?_)<;>simp only [go_sem]
   ·have hip:i<bY x out:=by
     rcases Nat.lt_or_ge i (bY x out) with g | g
     ·exact g
     ·have e:i=bY x out:=by omega
      subst e
      have:=l5 hio
      omega
    rw [hQ2]
    simp only [go_sem]
    refine ⟨⟨i+1,hip⟩,by show out.length-(i+1)<out.length-i;omega,id,?_⟩
    simp only [go_sem]
    rw [ab ⟨by omega,by omega⟩]
    (repeat' apply And.intro)<;>first | rfl | trivial
   ·have hip:i=bY x out:=by
     rcases Nat.lt_or_ge i (bY x out) with g | g
     ·exact absurd (l4 hio g) h3
     ·omega
    rw [hQ2]
    simp only [go_sem]
    refine ag mixed E' fun X=>?_
    simp only [go_sem]
    refine cQ X (fun h4=>?_) (fun h4=>absurd (by omega) h4)<;>simp only [go_sem]
    refine ⟨by omega,?_⟩
    rw [aD hio]
    simp only [go_sem]
    refine ⟨by omega,?_⟩
    rw [hgx]
    simp only [go_sem]
    refine ⟨by decide +kernel,?_⟩
    refine ai E' (fun h5=>?_) (fun h5=>?_)<;>simp only [go_sem]
    ·rw [hQ]
     simp only [go_sem]
     refine ⟨⟨(j+1,out),hj',by rw [hnx,eD,if_pos (h5 ▸ List.getElem_mem hio)],by show out.length≤j+1;omega⟩,by show l.length-(j+1)<l.length-j;omega,id,?_⟩
     simp only [go_sem]
     rw [ab ⟨by omega,by omega⟩]
     (repeat' apply And.intro)<;>first | rfl | trivial
    ·refine ag mixed E' fun X=>?_
     simp only [go_sem]
     refine ⟨⟨by omega,by omega⟩,by simp;omega,⟨by omega,by omega⟩,?_⟩
     rw [hgx]
     simp only [go_sem]
     refine ⟨by simp;omega,⟨by omega,by omega,by omega⟩,by simp;omega,by decide +kernel,?_⟩
     have hno:x ∉ out:=wA hris (fun hi=>by subst hip;exact h5)
     have hin:eD out x=out.take i++x::out.drop i:=by rw [eD,if_neg hno,← hip]
     have hil:(eD out x).length=out.length+1:=by rw [hin];simp;omega
     rw [hQ]
     refine ⟨⟨(j+1,eD out x),hj',hnx.symm,by show (eD out x).length≤j+1;omega⟩,by show l.length-(j+1)<l.length-j;omega,tau [([98],[59])],?_⟩
     simp only [go_sem]
     rw [ab ⟨by omega,by omega⟩,hil,hin]
     have e1:(List.take (i-0) (out.map i64)).length=i:=by simp;omega
     have e2:(List.take (out.length-i) (List.drop i (out.map i64)))=(out.drop i).map i64:=by rw [List.take_of_length_le (by simp),List.map_drop]
     have e3:List.take (i-0) (out.map i64)=(out.take i).map i64:=by rw [Nat.sub_zero,List.map_take]
     rw [e1,e2,e3,List.take_of_length_le (by simp;omega)]
     (repeat' apply And.intro)<;>first | rfl | trivial | (simp;omega) | simp
  ·have hio:i=out.length:=by omega
   have hip:i=bY x out:=by omega
   refine ⟨by decide +kernel,?_⟩
   rw [hQ2]
   simp only [go_sem]
   refine ag mixed E' fun X=>?_
   simp only [go_sem]
   refine cQ X (fun h4=>absurd h4 (by omega)) (fun h4=>?_)
   simp only [go_sem]
   refine ⟨by decide +kernel,?_⟩
   refine ag mixed E' fun X=>?_
   simp only [go_sem]
   refine ⟨⟨by omega,by omega⟩,by simp;omega,⟨by omega,by omega⟩,?_⟩
   rw [hgx]
   simp only [go_sem]
   refine ⟨by simp;omega,⟨by omega,by omega,by omega⟩,by simp;omega,by decide +kernel,?_⟩
   have hno:x ∉ out:=wA hris (fun hi=>absurd hi (by omega))
   have hin:eD out x=out.take i++x::out.drop i:=by rw [eD,if_neg hno,← hip]
   have hil:(eD out x).length=out.length+1:=by rw [hin];simp;omega
   rw [hQ]
   refine ⟨⟨(j+1,eD out x),hj',hnx.symm,by show (eD out x).length≤j+1;omega⟩,by show l.length-(j+1)<l.length-j;omega,tau [([98],[59])],?_⟩
   simp only [go_sem]
   rw [ab ⟨by omega,by omega⟩,hil,hin]
   have e1:(List.take (i-0) (out.map i64)).length=i:=by simp;omega
   have e2:(List.take (out.length-i) (List.drop i (out.map i64)))=(out.drop i).map i64:=by rw [List.take_of_length_le (by simp),List.map_drop]
   have e3:List.take (i-0) (out.map i64)=(out.take i).map i64:=by rw [Nat.sub_zero,List.map_take]
   rw [e1,e2,e3,List.take_of_length_le (by simp;omega)]
   (repeat' apply And.intro)<;>first | rfl | trivial | (simp;omega) | simp
 ·have hje:j=l.length:=by omega
  subst hje
  rw [List.take_length,sL] at ho
  subst ho
  rw [hQ]
  simp only [go_sem]
  refine ⟨[([98],none,(gp l).map i64)],?_⟩
  simp only [go_sem]
  exact ⟨_,rfl,.refl _⟩
end Go.Proofs.YthfodompfpdmgaaGreatDoor

namespace Go.Proofs.YthfodompfpdmgaaGreatDoor
open Go.Ab
def szO (ns:List TN):Nat→Int→Nat
 | 0,_=>1
 | f+1,i=>if cL ns i then 1+szO ns f (nd ns i.toNat).a+szO ns f (nd ns i.toNat).b else 1
theorem pX (ns:List TN):∀ (f:Nat) (i:Int),1≤szO ns f i
 | 0,_=>Nat.le_refl _
 | f+1,i=>by
   rw [szO]
   split<;>omega
theorem yn {ns:List TN} {n:Nat} {i:Int} (h:Hgt ns n i):szO ns (n+1) i=szO ns n i:=by
 induction h with
 | flat h=>simp [szO,h]
 | both h _ _ iha ihb=>rw [szO,if_pos h,iha,ihb,szO,if_pos h]
theorem ud (ns:List TN):∀ (f:Nat) (i:Int),szO ns f i+1≤2 ^ (f+1)
 | 0,_=>Nat.le_refl _
 | f+1,i=>by
   have h1:=ud ns f (nd ns i.toNat).a
   have h2:=ud ns f (nd ns i.toNat).b
   have h3:2 ^ (f+1+1)=2*2 ^ (f+1):=by rw [Nat.pow_succ];omega
   rw [szO]
   split<;>omega
theorem DW {ns:List TN} {n:Nat} {i:Int} (h:Hgt ns n i) (hl:cL ns i=true):szO ns n i=1+szO ns n (nd ns i.toNat).a+szO ns n (nd ns i.toNat).b:=by
 cases h with
 | flat h=>rw [hl] at h;cases h
 | both _ ha hb=>rw [yn ha,yn hb,szO,if_pos hl]
def szL (ns:List TN) (f:Nat):List Int→Nat
 | []=>0
 | i::r=>szO ns f i+szL ns f r
theorem wb (ns:List TN) (f:Nat):∀ a b:List Int,szL ns f (a++b)=szL ns f a+szL ns f b
 | [],b=>by simp [szL]
 | x::a,b=>by
   have:=wb ns f a b
   rw [List.cons_append,szL,szL,this]
   omega
theorem j9 (ns:List TN) (f:Nat):∀ a:List Int,a.length≤szL ns f a
 | []=>Nat.le_refl _
 | x::a=>by
   have:=j9 ns f a
   have:=pX ns f x
   rw [szL,List.length_cons]
   omega
theorem yA (ns:List TN) (f:Nat):∀ a:List Int,szL ns f a≤a.length*2 ^ (f+1)
 | []=>Nat.zero_le _
 | x::a=>by
   have h1:=yA ns f a
   have h2:=ud ns f x
   rw [szL,List.length_cons,Nat.succ_mul]
   omega
structure Bfs (ns:List TN) (l todo out:List Int):Prop where
 tk:∀ i∈todo,okP ns i
 is:∀ x,(x∈out∨∃ i∈todo,Opn ns i x)↔∃ i∈l,Opn ns i x
 sz:out.length+szL ns (ns.length+1) todo≤szL ns (ns.length+1) l
theorem xh {ns:List TN} {l:List Int} (hk:∀ x∈l,okP ns x):Bfs ns l l []:=⟨hk,fun x=>by simp,by simp⟩
theorem zn {ns:List TN} {l todo out:List Int} {i:Int} (h:Bfs ns l (i::todo) out) (hl:cL ns i=false):Bfs ns l todo (out++[i]):=by
 refine ⟨fun x hx=>h.tk x (List.mem_cons_of_mem _ hx),fun x=>?_,?_⟩
 ·rw [← h.is x]
  constructor
  ·rintro (hx | ⟨j,hj,hjx⟩)
   ·rcases List.mem_append.1 hx with hx | hx
    ·exact .inl hx
    ·rw [List.mem_singleton.1 hx]
     exact .inr ⟨i,List.mem_cons_self,.flat hl⟩
   ·exact .inr ⟨j,List.mem_cons_of_mem _ hj,hjx⟩
  ·rintro (hx | ⟨j,hj,hjx⟩)
   ·exact .inl (List.mem_append_left _ hx)
   ·rcases List.mem_cons.1 hj with rfl | hj
    ·rw [hjx.self hl]
     exact .inl (by simp)
    ·exact .inr ⟨j,hj,hjx⟩
 ·have h1:=h.sz
  have h2:=pX ns (ns.length+1) i
  rw [szL] at h1
  rw [List.length_append,List.length_singleton]
  omega
theorem vv {ns:List TN} {l todo out:List Int} {i:Int} (hn:Inn ns) (h:Bfs ns l (i::todo) out) (hl:cL ns i=true) :
  Bfs ns l (todo++[(nd ns i.toNat).a,(nd ns i.toNat).b]) out∧szL ns (ns.length+1) (todo++[(nd ns i.toNat).a,(nd ns i.toNat).b])<szL ns (ns.length+1) (i::todo):=by
 have hi:=h.tk i List.mem_cons_self
 obtain ⟨ka,kb⟩:=hn.kids hi hl
 have hs:=DW (px hn hi) hl
 have hz:szL ns (ns.length+1) (todo++[(nd ns i.toNat).a,(nd ns i.toNat).b])<szL ns (ns.length+1) (i::todo):=by
  rw [wb,szL,szL,szL,szL,hs]
  omega
 refine ⟨⟨fun x hx=>?_,fun x=>?_,?_⟩,hz⟩
 ·rcases List.mem_append.1 hx with hx | hx
  ·exact h.tk x (List.mem_cons_of_mem _ hx)
  ·rcases List.mem_cons.1 hx with rfl | hx
   ·exact ka
   ·rw [List.mem_singleton.1 hx];exact kb
 ·rw [← h.is x]
  constructor
  ·rintro (hx | ⟨j,hj,hjx⟩)
   ·exact .inl hx
   ·rcases List.mem_append.1 hj with hj | hj
    ·exact .inr ⟨j,List.mem_cons_of_mem _ hj,hjx⟩
    ·refine .inr ⟨i,List.mem_cons_self,?_⟩
     rcases List.mem_cons.1 hj with rfl | hj
     ·exact .left hl hjx
     ·rw [List.mem_singleton.1 hj] at hjx
      exact .right hl hjx
  ·rintro (hx | ⟨j,hj,hjx⟩)
   ·exact .inl hx
   ·rcases List.mem_cons.1 hj with rfl | hj
    ·cases hjx with
     | flat hf=>rw [hl] at hf;cases hf
     | left _ t=>exact .inr ⟨_,List.mem_append_right _ List.mem_cons_self,t⟩
     | right _ t=>exact .inr ⟨_,List.mem_append_right _ (List.mem_cons_of_mem _ List.mem_cons_self),t⟩
    ·exact .inr ⟨j,List.mem_append_left _ hj,hjx⟩
 ·have:=h.sz
  omega
theorem CJ {ns:List TN} {l out:List Int} (h:Bfs ns l [] out):gp out=cM ns l:=by
 refine (fk ⟨jz out,fun x=>?_⟩).symm
 rw [nA,← h.is x]
 constructor
 ·exact .inl
 ·rintro (hx | ⟨j,hj,_⟩)
  ·exact hx
  ·cases hj
end Go.Proofs.YthfodompfpdmgaaGreatDoor

namespace Go.Proofs.YthfodompfpdmgaaGreatDoor
open Go.Ab
theorem BX (J r:List Int) (i:Int):((J++i::r).map i64).getD J.length .nilp=i64 i:=by simp
theorem rW (J r:List Int) (i:Int):(((J++i::r).map i64).drop (J.length+1)).take r.length=r.map i64:=by
 rw [show J++i::r=(J++[i])++r by simp,List.map_append,List.drop_append_of_le_length (by simp),List.drop_of_length_le (by simp),List.nil_append,List.take_of_length_le (by simp)]
set_option maxHeartbeats 4000000 in
theorem FX {G} (ns:List TN) (root:Int) (l:List Int) (h:Inn ns) (hsz:szL ns (ns.length+1) l≤1000000000) (hk:∀ x∈l,okP ns x):HP Tryz.prog G 56 [aF ns root,aj l] (fun r=>r=.d (aj (cM ns l))):=by
 have hn:=h.len
 have hll:l.length≤1000000000:=Nat.le_trans (j9 ns _ l) hsz
 refine fc ?_
 unfold aj aF
 refine aP Tryz.func56 rfl (by decide +kernel) (by simp [Tryz.ntmps56]) (veil fun E=>?_)
 simp only [go_sem]
 refine ⟨by omega,?_⟩
 refine bL E [2] (.agg [.sl (some 4) (ns.map ah),i64 root]) rfl rfl ?_
 simp only [go_sem]
 refine au E (X:={ x:(List Int × List Int) × List Int // Bfs ns l x.1.2 x.2 }) (fun x=>[(2,.d (.ptr (.agg [.sl (some 4) (ns.map ah),i64 root]))),(5,.vw [98] 0 x.1.2.length),(6,.vw [97] x.1.1.1.length x.1.1.2.length)])
  (fun x=>[([98],.arr none (x.1.2.map i64)),([97],.arr none ((x.1.1.1++x.1.1.2).map i64))]) [98,97] (fun x=>szL ns (ns.length+1) x.1.1.2) ⟨(([],l),[]),xh hk⟩ (tau [([98],[9]),([97],[12])]) ?_ ?_
 ·simp only [go_sem]
  all_goals first | rfl | ((repeat' apply And.intro)<;>first | rfl | trivial)
 rintro ⟨⟨⟨J,todo⟩,out⟩,hb⟩ E0
 refine aR E0 fun Q' hQ E'=>?_
 simp only at hb ⊢
 simp only [go_sem]
 refine ai E' (fun h1=>?_) (fun h1=>?_)<;>simp only [go_sem]
 ·cases todo with
  | nil=>exact absurd h1 (by simp)
  | cons i r =>
    have hi:=hb.tk i List.mem_cons_self
    have hi1:=hi.1
    have hi2:=hi.2
    have hg:((J++i::r).map i64).getD J.length .nilp=i64 i:=BX J r i
    have hns:=dO hi
    have hlen:(i::r).length=r.length+1:=rfl
    refine ⟨by omega,?_⟩
    rw [hg]
    simp only [go_sem]
    refine ⟨⟨by omega,by omega⟩,⟨hi1,by exact_mod_cast hi2⟩,?_⟩
    rw [hns]
    simp only [go_sem]
    refine aC E' (fun h2=>?_) (fun h2=>?_)<;>simp only [go_sem]
    ·have hl:cL ns i=true:=by rw [cL,fH,decide_eq_true h2];rfl
     obtain ⟨hb',hm⟩:=vv h hb hl
     have hz:=hb.sz
     have hz2:=j9 ns (ns.length+1) (i::r)
     refine ⟨by omega,?_⟩
     rw [hQ]
     refine ⟨⟨(([],r++[(nd ns i.toNat).a,(nd ns i.toNat).b]),out),hb'⟩,hm,tau [([97],[40])],?_⟩
     simp only [go_sem]
     rw [rW]
     simp only [List.map_append,List.length_append,List.map_cons,List.map_nil,List.length_cons,List.length_nil,List.nil_append]
     (repeat' apply And.intro)<;>first | rfl | trivial
    ·refine ai E' (fun h3=>?_) (fun h3=>?_)<;>simp only [go_sem]
     ·have hl:cL ns i=true:=by rw [cL,fH,decide_eq_true h3,Bool.or_true]
      obtain ⟨hb',hm⟩:=vv h hb hl
      have hz:=hb.sz
      have hz2:=j9 ns (ns.length+1) (i::r)
      refine ⟨by omega,?_⟩
      rw [hQ]
      refine ⟨⟨(([],r++[(nd ns i.toNat).a,(nd ns i.toNat).b]),out),hb'⟩,hm,tau [([97],[40])],?_⟩
      simp only [go_sem]
      rw [rW]
      simp only [List.map_append,List.length_append,List.map_cons,List.map_nil,List.length_cons,List.length_nil,List.nil_append]
      (repeat' apply And.intro)<;>first | rfl | trivial
     ·have hl:cL ns i=false:=by rw [cL,fH,decide_eq_false h2,decide_eq_false h3];rfl
      have hb':=zn hb hl
      have hz:=hb.sz
      have hz2:=j9 ns (ns.length+1) (i::r)
      refine ⟨by omega,?_⟩
      rw [hQ]
      refine ⟨⟨((J++[i],r),out++[i]),hb'⟩,by show szL ns _ r<szL ns _ (i::r);rw [szL];have:=pX ns (ns.length+1) i;omega,tau [([98],[44])],?_⟩
      simp only [go_sem]
      simp only [List.map_append,List.length_append,List.map_cons,List.map_nil,List.length_cons,List.length_nil,List.append_assoc,List.cons_append,List.nil_append]
      (repeat' apply And.intro)<;>first | rfl | trivial
 ·cases todo with
  | cons i r=>exact absurd (show (0:Int)<((i::r).length:Nat) by simp) h1
  | nil =>
    have hz:=hb.sz
    have c1:=yT (G:=G) out (by omega)
    rw [CJ hb] at c1
    unfold aj at c1
    rw [hQ]
    simp only [go_sem]
    refine bt E [98] none (out.map i64) rfl rfl ?_
    simp only [go_sem]
    refine ae E c1 rfl (by simp only [go_sem]) (by simp) ?_
    rintro _ rfl
    simp only [go_sem]
    refine ⟨[],?_⟩
    simp only [go_sem]
    exact ⟨_,rfl,.refl _⟩
end Go.Proofs.YthfodompfpdmgaaGreatDoor

namespace Go.Proofs.YthfodompfpdmgaaGreatDoor
open Go.Ab
def lsR (c:Clu):D:=if c.2.1 then .nils else .sl none (c.2.2.map i64)
def gu (c:Clu):D:=.agg [.bool c.1,.bool c.2.1,lsR c]
theorem yu {c:Clu} (h:c.2.1=true→c.2.2=[]):Wk (lsR c) (aj c.2.2):=by
 unfold lsR aj
 split
 ·rename_i ha
  rw [h ha]
  exact .nils _
 ·exact .refl _
theorem EX {c:Clu} (h:c.2.1=false):gu c=cH c:=by
 unfold gu cH lsR
 rw [h]
 rfl
set_option maxHeartbeats 4000000 in
theorem qE {G} (ns:List TN) (root:Int) (h:Inn ns) (p:Bool) (l:List Int) (hsz:szL ns (ns.length+1) l≤1000000000) (hk:∀ x∈l,okP ns x) :
  HP Tryz.prog G 30 [aF ns root,.bool p,aj l] (fun r=>r=.d (gu (ofC ns p l))):=by
 have c1:=FX (G:=G) ns root l h hsz hk
 have ho1:=ie h hk
 have ho2:=iU h hk
 have hn:=h.len
 generalize hC:ofC ns p l=C
 unfold ofC at hC
 generalize cM ns l=O at c1 ho1 ho2 hC
 refine fc ?_
 unfold aj aF at *
 refine aP Tryz.func30 rfl (by decide +kernel) (by simp [Tryz.ntmps30]) (veil fun E=>?_)
 simp only [go_sem]
 refine nh E [3] (.agg [.sl (some 4) (ns.map ah),i64 root]) rfl rfl ?_
 simp only [go_sem]
 refine ae E c1 rfl rfl (by simp) ?_
 rintro _ rfl
 simp only [go_sem]
 refine aX E (fun hp=>?_) (fun hp=>?_)<;>simp only [go_sem]
 ·have hev:evK p=1:=by rw [evK,if_pos (by simpa using hp)]
  have hno:noK p=2:=by rw [noK,if_pos (by simpa using hp)]
  refine au E (X:={ i:Nat // i≤O.length∧(O.take i).any (evB ns p)=false }) (fun x=>[(1,.d (.bool p)),(3,.d (.ptr (.agg [.sl (some 4) (ns.map ah),i64 root]))),(6,.bx [6] 0),(7,.vw [98] 0 ((O.take x.1).filter fun x=>!noB ns p x).length),(8,.d (.sl none (O.map i64))),(9,.d (i64 2)),(10,.d (i64 1)),(11,.d (i64 x.1))])
   (fun x=>[([6],.box [.d (.bool false),.d (.bool false),.d .nils]),([98],.arr none (((O.take x.1).filter fun x=>!noB ns p x).map i64))]) [98,6] (fun x=>O.length-x.1) ⟨0,Nat.zero_le _,rfl⟩ (tau [([98],[13])]) ?_ ?_
  ·simp only [go_sem]
   all_goals first | rfl | ((repeat' apply And.intro)<;>first | rfl | trivial)
  rintro ⟨i,hi,ha⟩ E0
  refine aR E0 fun Q' hQ E'=>?_
  simp only at hi ha ⊢
  simp only [go_sem]
  refine ai E' (fun h1=>?_) (fun h1=>?_)<;>simp only [go_sem]
  ·have hi':i<O.length:=by omega
   have hx:=ho1 _ (List.getElem_mem hi')
   have hx1:=hx.1
   have hx2:=hx.2
   have hfl:((O.take i).filter fun x=>!noB ns p x).length≤2000:=Nat.le_trans (List.length_filter_le _ _) (by simp;omega)
   have hnx:=df (p:=fun x=>!noB ns p x) hi'
   refine ag mixed E' fun X=>?_
   simp only [go_sem]
   refine ⟨by omega,?_⟩
   rw [aD hi']
   simp only [go_sem]
   refine ⟨by omega,?_⟩
   rw [dO hx]
   simp only [go_sem]
   refine ⟨by decide +kernel,?_⟩
   refine ai E' (fun h2=>?_) (fun h2=>?_)<;>simp only [go_sem]
   ·rw [hQ]
    simp only [go_sem]
    have hany:O.any (evB ns p)=true:=List.any_eq_true.2 ⟨O[i],List.getElem_mem hi',by rw [dJ hev];exact decide_eq_true h2⟩
    rw [if_pos hany] at hC
    subst hC
    refine ⟨[],?_⟩
    simp only [go_sem]
    exact ⟨_,rfl,.refl _⟩
   refine ai E' (fun h3=>?_) (fun h3=>?_)<;>simp only [go_sem]
   ·rw [show noB ns p O[i]=false by rw [gN hno];exact decide_eq_false h3] at hnx
    refine ⟨by omega,?_⟩
    rw [aD hi']
    simp only [go_sem]
    refine ⟨by omega,?_⟩
    rw [hQ]
    refine ⟨⟨i+1,hi',dy hi' ha (by rw [dJ hev];exact decide_eq_false h2)⟩,by show O.length-(i+1)<O.length-i;omega,tau [([98],[47])],?_⟩
    simp only [go_sem]
    rw [ab ⟨by omega,by omega⟩]
    simp only [hnx,Bool.not_false,if_true,List.map_append,List.length_append,List.map_cons,List.map_nil,List.length_cons,List.length_nil]
    (repeat' apply And.intro)<;>first | rfl | trivial
   ·rw [show noB ns p O[i]=true by rw [gN hno];exact decide_eq_true (by simpa using h3)] at hnx
    rw [hQ]
    simp only [go_sem]
    refine ⟨⟨i+1,hi',dy hi' ha (by rw [dJ hev];exact decide_eq_false h2)⟩,by show O.length-(i+1)<O.length-i;omega,id,?_⟩
    simp only [go_sem]
    rw [ab ⟨by omega,by omega⟩]
    simp only [hnx,Bool.not_true,Bool.false_eq_true,if_false,List.append_nil]
    (repeat' apply And.intro)<;>first | rfl | trivial
  ·have hie:i=O.length:=by omega
   subst hie
   rw [List.take_length] at ha
   rw [if_neg (by rw [ha];simp)] at hC
   rw [hQ]
   simp only [go_sem]
   subst hC
   refine ⟨[([98],none,(O.filter fun x=>!noB ns p x).map i64)],?_⟩
   simp only [go_sem]
   exact ⟨_,rfl,.refl _⟩
 ·have hev:evK p=2:=by rw [evK,if_neg (by simpa using hp)]
  have hno:noK p=1:=by rw [noK,if_neg (by simpa using hp)]
  refine au E (X:={ i:Nat // i≤O.length∧(O.take i).any (evB ns p)=false }) (fun x=>[(1,.d (.bool p)),(3,.d (.ptr (.agg [.sl (some 4) (ns.map ah),i64 root]))),(6,.bx [6] 0),(7,.vw [98] 0 ((O.take x.1).filter fun x=>!noB ns p x).length),(8,.d (.sl none (O.map i64))),(9,.d (i64 1)),(10,.d (i64 2)),(11,.d (i64 x.1))])
   (fun x=>[([6],.box [.d (.bool false),.d (.bool false),.d .nils]),([98],.arr none (((O.take x.1).filter fun x=>!noB ns p x).map i64))]) [98,6] (fun x=>O.length-x.1) ⟨0,Nat.zero_le _,rfl⟩ (tau [([98],[13])]) ?_ ?_
  ·simp only [go_sem]
   all_goals first | rfl | ((repeat' apply And.intro)<;>first | rfl | trivial)
  rintro ⟨i,hi,ha⟩ E0
  refine aR E0 fun Q' hQ E'=>?_
  simp only at hi ha ⊢
  simp only [go_sem]
  refine ai E' (fun h1=>?_) (fun h1=>?_)<;>simp only [go_sem]
  ·have hi':i<O.length:=by omega
   have hx:=ho1 _ (List.getElem_mem hi')
   have hx1:=hx.1
   have hx2:=hx.2
   have hfl:((O.take i).filter fun x=>!noB ns p x).length≤2000:=Nat.le_trans (List.length_filter_le _ _) (by simp;omega)
   have hnx:=df (p:=fun x=>!noB ns p x) hi'
   refine ag mixed E' fun X=>?_
   simp only [go_sem]
   refine ⟨by omega,?_⟩
   rw [aD hi']
   simp only [go_sem]
   refine ⟨by omega,?_⟩
   rw [dO hx]
   simp only [go_sem]
   refine ⟨by decide +kernel,?_⟩
   refine ai E' (fun h2=>?_) (fun h2=>?_)<;>simp only [go_sem]
   ·rw [hQ]
    simp only [go_sem]
    have hany:O.any (evB ns p)=true:=List.any_eq_true.2 ⟨O[i],List.getElem_mem hi',by rw [dJ hev];exact decide_eq_true h2⟩
    rw [if_pos hany] at hC
    subst hC
    refine ⟨[],?_⟩
    simp only [go_sem]
    exact ⟨_,rfl,.refl _⟩
   refine ai E' (fun h3=>?_) (fun h3=>?_)<;>simp only [go_sem]
   ·rw [show noB ns p O[i]=false by rw [gN hno];exact decide_eq_false h3] at hnx
    refine ⟨by omega,?_⟩
    rw [aD hi']
    simp only [go_sem]
    refine ⟨by omega,?_⟩
    rw [hQ]
    refine ⟨⟨i+1,hi',dy hi' ha (by rw [dJ hev];exact decide_eq_false h2)⟩,by show O.length-(i+1)<O.length-i;omega,tau [([98],[47])],?_⟩
    simp only [go_sem]
    rw [ab ⟨by omega,by omega⟩]
    simp only [hnx,Bool.not_false,if_true,List.map_append,List.length_append,List.map_cons,List.map_nil,List.length_cons,List.length_nil]
    (repeat' apply And.intro)<;>first | rfl | trivial
   ·rw [show noB ns p O[i]=true by rw [gN hno];exact decide_eq_true (by simpa using h3)] at hnx
    rw [hQ]
    simp only [go_sem]
    refine ⟨⟨i+1,hi',dy hi' ha (by rw [dJ hev];exact decide_eq_false h2)⟩,by show O.length-(i+1)<O.length-i;omega,id,?_⟩
    simp only [go_sem]
    rw [ab ⟨by omega,by omega⟩]
    simp only [hnx,Bool.not_true,Bool.false_eq_true,if_false,List.append_nil]
    (repeat' apply And.intro)<;>first | rfl | trivial
  ·have hie:i=O.length:=by omega
   subst hie
   rw [List.take_length] at ha
   rw [if_neg (by rw [ha];simp)] at hC
   rw [hQ]
   simp only [go_sem]
   subst hC
   refine ⟨[([98],none,(O.filter fun x=>!noB ns p x).map i64)],?_⟩
   simp only [go_sem]
   exact ⟨_,rfl,.refl _⟩
end Go.Proofs.YthfodompfpdmgaaGreatDoor

namespace Go.Proofs.YthfodompfpdmgaaGreatDoor
open Go.Ab
set_option maxHeartbeats 4000000 in
theorem FQ {G} (ns:List TN) (root k:Int) (h:Inn ns) (c:Clu) (hl:c.2.2.length≤2000) (hk:∀ x∈c.2.2,okP ns x) :
  HP Tryz.prog G 57 [aF ns root,cH c,i64 k] (fun r=>r=.d (aj (aw ns k c.2.2))):=by
 obtain ⟨p,a,l⟩:=c
 simp only at hl hk
 have hn:=h.len
 refine fc ?_
 unfold aj aF cH
 refine aP Tryz.func57 rfl (by decide +kernel) (by simp [Tryz.ntmps57]) (veil fun E=>?_)
 simp only [go_sem]
 refine bL E [3] (.agg [.sl (some 4) (ns.map ah),i64 root]) rfl rfl ?_
 simp only [go_sem]
 refine bL E [4] (.agg [.bool p,.bool a,.sl none (l.map i64)]) rfl rfl ?_
 simp only [go_sem]
 refine au E (X:={ i:Nat // i≤l.length }) (fun x=>[(2,.d (i64 k)),(3,.d (.ptr (.agg [.sl (some 4) (ns.map ah),i64 root]))),(4,.d (.ptr (.agg [.bool p,.bool a,.sl none (l.map i64)]))),(7,.vw [98] 0 (aw ns k (l.take x.1)).length),(8,.d (i64 x.1))])
  (fun x=>[([98],.arr none ((aw ns k (l.take x.1)).map i64))]) [98] (fun x=>l.length-x.1) ⟨0,Nat.zero_le _⟩ (tau [([98],[9])]) ?_ ?_
 ·simp only [go_sem]
  all_goals first | rfl | ((repeat' apply And.intro)<;>first | rfl | trivial)
 rintro ⟨i,hi⟩ E0
 refine aR E0 fun Q' hQ E'=>?_
 simp only at hi ⊢
 simp only [go_sem]
 refine ai E' (fun h1=>?_) (fun h1=>?_)<;>simp only [go_sem]
 ·have hi':i<l.length:=by omega
  have hx:=hk _ (List.getElem_mem hi')
  have hx1:=hx.1
  have hx2:=hx.2
  have hfl:(aw ns k (l.take i)).length≤2000:=Nat.le_trans (bd _ _ _) (by simp;omega)
  have hnx:=df (p:=fun x=>decide (kdI ns x=k)) hi'
  rw [show List.filter (fun x=>decide (kdI ns x=k)) (l.take (i+1))=aw ns k (l.take (i+1)) from rfl,show List.filter (fun x=>decide (kdI ns x=k)) (l.take i)=aw ns k (l.take i) from rfl] at hnx
  refine ag mixed E' fun X=>?_
  simp only [go_sem]
  refine ⟨by omega,?_⟩
  rw [aD hi']
  simp only [go_sem]
  refine ⟨by omega,?_⟩
  rw [dO hx]
  simp only [go_sem]
  refine ⟨by decide +kernel,?_⟩
  refine ai E' (fun h2=>?_) (fun h2=>?_)<;>simp only [go_sem]
  ·rw [show decide (kdI ns l[i]=k)=true from decide_eq_true h2] at hnx
   refine ⟨by omega,?_⟩
   rw [aD hi']
   simp only [go_sem]
   refine ⟨by omega,?_⟩
   rw [hQ]
   refine ⟨⟨i+1,hi'⟩,by show l.length-(i+1)<l.length-i;omega,tau [([98],[36])],?_⟩
   simp only [go_sem]
   rw [ab ⟨by omega,by omega⟩]
   simp only [hnx,if_true,List.map_append,List.length_append,List.map_cons,List.map_nil,List.length_cons,List.length_nil]
   (repeat' apply And.intro)<;>first | rfl | trivial
  ·rw [show decide (kdI ns l[i]=k)=false from decide_eq_false h2] at hnx
   rw [hQ]
   simp only [go_sem]
   refine ⟨⟨i+1,hi'⟩,by show l.length-(i+1)<l.length-i;omega,id,?_⟩
   simp only [go_sem]
   rw [ab ⟨by omega,by omega⟩]
   simp only [hnx,Bool.false_eq_true,if_false,List.append_nil]
   (repeat' apply And.intro)<;>first | rfl | trivial
 ·have hie:i=l.length:=by omega
  subst hie
  rw [List.take_length] at *
  rw [hQ]
  simp only [go_sem]
  refine ⟨[([98],none,(aw ns k l).map i64)],?_⟩
  simp only [go_sem]
  exact ⟨_,rfl,.refl _⟩
end Go.Proofs.YthfodompfpdmgaaGreatDoor

