/-
  MachineMore returns true at any tree and any two numbers, which read behind the call as they read before; conditions: none. (with the parts that follow it)
-/
import Derived.Test.YtejpnabbmgpmaaaGreatSBK
namespace Go.Proofs.YtejpnabbmgpmaaaGreat
open Go.Ab
open Go.ChangeShapes Go.WideShapes Go.ChangeAt Go.RowKit
set_option maxRecDepth 100000 in
theorem iQ (os:Os) (started:os.Started) (H:Type) (enc:TypeId × Value→H) :
  ReturnsInHanded {} Tryz.checked os 9 .any (Rows.machineMoreSpec.pre6 enc Tryz.prog Tryz.f9 [] false) (Rows.machineMoreSpec.post enc Tryz.prog Tryz.f9 false true false false):=by
 refine returnsInHanded_of_change (C:=Tryz.checked) Tryz.own started (by kernel_rfl) Tryz.func9
  (ChangeSpec.witness6 (enc:=enc) (C:=Tryz.checked) false ⟨#[],#[.agg #[.slice none 0 0],.int .u16 0,.int .u16 0],[]⟩ 8 (by kernel_rfl) (by kernel_rfl) (by kernel_rfl) (by kernel_rfl)) ?_
 intro W base args ds gs before hval0 hW _ _
 have hval:∀ (j:Nat) t v,Tryz.f9.params[j]?=some t→args[j]?=some v→Value.okWide Tryz.prog W .any base t v:=hval0
 have hW':=hW
 obtain ⟨p,q,hA0,hV,rfl,hfz,hnd⟩:=hW
 have hA:DataW.TrodAll enc Tryz.prog W 0 (fun _=>true) true Tryz.f9.params.toList args.toList ds p:=hA0
 rw [Tryz.params9] at hA hval
 obtain ⟨v0,v1,v2,d0,d1,d2,p0,p1,p2,rfl,rfl,rfl,h0,h1,h2⟩:=trodAll_three hA
 obtain ⟨rfl,rfl⟩:=trodVars_none hV
 clear hA0 hval0
 obtain ⟨x0,rfl,_⟩:=okWide_struct Tryz.underlying26 (hval 0 26 v0 rfl rfl)
 obtain ⟨e0,k0,r0⟩:=wv (m:=30) (show shp Tryz.prog 30 26=some Er by kernel_rfl) h0
 obtain ⟨n1,rfl⟩:=okWide_int Tryz.underlying43 (hval 1 43 v1 rfl rfl)
 obtain ⟨e1,k1,r1⟩:=oq (m:=30) (show shp Tryz.prog 30 43=some [.int .u16] by kernel_rfl) rfl h1
 obtain ⟨n2,rfl⟩:=okWide_int Tryz.underlying43 (hval 2 43 v2 rfl rfl)
 obtain ⟨e2,k2,r2⟩:=oq (m:=30) (show shp Tryz.prog 30 43=some [.int .u16] by kernel_rfl) rfl h2
 have eF:Rows.machineMoreSpec.fn H ([d0,d1,d2]++[])={ results:=[.lit (.bool true)],args:=[d0,d1,d2] }:=rfl
 refine (sL (G:=[]) (nz k0 k1 k2) (by simp) (vs:=#[.agg x0,.int .u16 n1,.int .u16 n2]) rfl ?_).mono ?_
 ·intro i d hi
  match i,hi with
  | 0,hi=>obtain rfl:=Option.some.inj hi;exact r0
  | 1,hi=>obtain rfl:=Option.some.inj hi;exact r1
  | 2,hi=>obtain rfl:=Option.some.inj hi;exact r2
 rintro e W' ⟨v,r,rfl,rfl,hext,_,_,_,_,hv⟩
 obtain rfl:=hv.bool
 have hlt:∀ x∈p0++(p1++p2),x.block<W.heap.size:=fun x hx=>by simpa using hW'.lt x (by simpa using hx)
 refine ⟨_,rfl,_,_,_,[],p0++(p1++p2),[],hW',?_,?_,?_,hext.frame _,fun h=>by cases h⟩
 ·rw [eF];exact trodAll_mk1 (shut_bool Tryz.underlying4 true)
 ·rw [eF];exact trodAll_mk3 (m9 (by kernel_rfl) (of_decide_eq_true (by kernel_rfl)) h0 hext (fun x hx=>hlt x (by simp [hx]))) (m9 (by kernel_rfl) (of_decide_eq_true (by kernel_rfl)) h1 hext (fun x hx=>hlt x (by simp [hx]))) (m9 (by kernel_rfl) (of_decide_eq_true (by kernel_rfl)) h2 hext (fun x hx=>hlt x (by simp [hx])))
 ·rw [eF];rfl
set_option maxRecDepth 100000 in
theorem ji:joinedFacts Tryz.prog 9 Tryz.f9 Rows.machineMoreSpec Rows.machineMoreRow=true:=by
 unfold joinedFacts
 exact ba (ba (ba (ba (ba (ba (ba (ba (ba (ba (ba (ba (ba (ba (ba (ba (ba (ba (ba (ba (ba (ba (ba (ba (ba (ba (ba (ba (ba (ba (ba mS CK) CS) nt) l6) mY) A9) mT) z8) lg) kZ) lp) lh) kU) lB) kT) kV) lx) kS) lj) kY) lC) kW) ly) zO) Bh) lE) lz) kR) kX) lr) lA
theorem jy:Tryz.pinned.checked.prog.funcNamed Rows.machineMoreRow.func=some 9:=by kernel_rfl
theorem km:decide (Tryz.f9.isInstance Tryz.pinned.checked.prog Rows.machineMoreRow.origin Rows.machineMoreRow.targs)=true:=by kernel_rfl
theorem machineMore_holds:Rows.MachineMoreSaid :=
 OpenClaim.holds_of_wide 9 Tryz.f9 rfl rfl rfl rfl rfl rfl rfl ⟨rfl,rfl,rfl,rfl,rfl⟩ rfl rfl rfl rfl rfl jy Tryz.func9 ji
  (of_decide_eq_true km) (by unfold Func.isWrapper;rw [if_neg (of_decide_eq_false (by kernel_rfl))];exact ⟨rfl,rfl⟩)
  (fun os started H enc _=>iQ os started H enc)
end Go.Proofs.YtejpnabbmgpmaaaGreat

