/-
  The rows' frame at this seat: the tables out of the row's condition; the witness. (with the parts that follow it)
-/
import Derived.Test.YthfodompfpdmgaaGreatDoorSOC
import Derived.Test.YthfodompfpdmgaaGreatDoorSOD
import Derived.Test.YthfodompfpdmgaaGreatDoorSOK
import Derived.Test.YthfodompfpdmgaaGreatDoorRows
import Derived.Test.YthfodompfpdmgaaGreatDoorTie
import Derived.ProofKit
import Derived.JoinedOf
import Derived.ChangeMaps5
import Derived.LaidLaws
import Derived.LaidHandle
import Derived.Stop.Joined
import Derived.Lib.LaidTab
import Derived.Lay
import Derived.SevenTiedAt
import Derived.Test.YthfodompfpdmgaaGreatDoorCards
set_option linter.all false
namespace Go.Proofs.YthfodompfpdmgaaGreatDoor
open Go.Ab
open Go.ChangeShapes Go.WideShapes Go.ChangeAt Go.RowKit
theorem Tryz.own:ownKnob Tryz.prog.godebug=none:=by kernel_rfl
def mV:List (String × DataW Unit):=[("math/bits.deBruijn32tab",Rows.laid_math_bits_deBruijn32tab),("math/bits.deBruijn64tab",Rows.laid_math_bits_deBruijn64tab),("internal/strconv.uint64pow10",Rows.laid_internal_strconv_uint64pow10)]
theorem jV {P:Program} {x:String × DataW Unit} {r:List (String × DataW Unit)} {W:World} (h:laidMet P (x::r) W):laidMet P r W:=by
 obtain ⟨ps,⟨g,t,cs,fuel,p,q,h1,h2,h3,h4,h5,rfl⟩,hnd,hall⟩:=h
 exact ⟨q,h5,(List.nodup_append.1 hnd).2.1,fun b off hb=>hall b off (List.mem_append_right _ hb)⟩
theorem F4:(Tryz.prog.globals[1]?).map (·.type)=some 241:=by kernel_rfl
theorem rM {W:World} (h:laidMetH Tryz.prog mV W):∃ t fz,∀ q∈GT t fz,W.heap[q.1]?=some q.2:=by
 have h1:laidMet Tryz.prog mV W:=h
 have h2:=Lib.tabIs_of_head (k:=.u64) (zs:=Lib.pow10Tab) (show Tryz.prog.globalNamed "internal/strconv.uint64pow10" = some 1 by kernel_rfl) F4 (show Tryz.prog.underlying 241=some (.array 20 210) by kernel_rfl) (show Tryz.prog.underlying 210=some (.int .u64) by kernel_rfl) (by kernel_rfl) (by kernel_rfl) (jV (jV h1))
 unfold Lib.TabIs World.var? at h2
 rw [show Tryz.prog.globalNamed "internal/strconv.uint64pow10" = some 1 by kernel_rfl] at h2
 simp only [Option.bind_some] at h2
 split at h2
 ·rename_i cs t fz hh
  simp only [Option.some.injEq] at h2
  subst h2
  refine ⟨t,fz,fun q hq=>?_⟩
  obtain rfl:=List.mem_singleton.1 hq
  exact hh
 ·cases h2
noncomputable def oJ (os:Os):World:=World.laidAll Tryz.prog os mV
theorem nX (os:Os) (args:Array Value):laidMetH Tryz.prog mV ((oJ os).forCall (fun _ _=>0) ⟨#[],args,[]⟩).memory :=
 laidMetH_of_parts (laidMet_laidAll args (by kernel_rfl) (by kernel_rfl)) (by kernel_rfl)
theorem Tryz.laidOut:laidOutB Tryz.prog=true:=by kernel_rfl
theorem By {H:Type} {enc:TypeId × Value→H} {t:TypeId} (hr:Tryz.prog.readableRec t=true) (hrow:t<Tryz.prog.types.size) {W W':World} {v:Value} {d:DataW H} {ps:List MemPlace}
  (h:DataW.Trod enc Tryz.prog W 0 (fun _=>true) true t v d ps) (he:Ext W W') (hlt:∀ x∈ps,x.block<W.heap.size) :
  DataW.Trod enc Tryz.prog W' 0 (fun b=>decide (b<W.heap.size)) true t v d ps :=
 WideElems.Trod_stays Tryz.laidOut hr hrow h (fun x hx=>by
  have h1:=he.old x.block (hlt x hx)
  cases x with
  | cell b off=>show W'.cell? _=W.cell? _;unfold World.cell?;rw [show W'.heap[b]?=W.heap[b]? from h1]
  | map b=>exact h1) (fun x hx=>by simpa using hlt x hx)
end Go.Proofs.YthfodompfpdmgaaGreatDoor

namespace Go.Proofs.YthfodompfpdmgaaGreatDoor
open Go.Ab
open Go.ChangeShapes Go.WideShapes Go.ChangeAt Go.RowKit
theorem sq:(Rows.subsetOfRow.wf (OpenSpec.ofChange Rows.subsetOfSpec))=true:=by kernel_rfl
theorem rS:(Tryz.f3.params.all (Tryz.prog.readableRec ·))=true:=by kernel_rfl
theorem rZ:(namedTie Tryz.prog Rows.subsetOfRow.named Rows.subsetOfSpec.vars)=true:=by kernel_rfl
theorem r9:((Rows.subsetOfRow.stops == []))=true:=by kernel_rfl
theorem sC:((Rows.subsetOfRow.knobs == []))=true:=by kernel_rfl
theorem qo:((Rows.subsetOfRow.inPlace == Tryz.prog.inPlace 3))=true:=by kernel_rfl
theorem qz:((Rows.subsetOfRow.unfollowed == Tryz.prog.unfollowed 3))=true:=by kernel_rfl
theorem pJ:((Rows.subsetOfRow.recurses == Tryz.prog.recurses 3))=true:=by kernel_rfl
theorem pL:((Rows.subsetOfRow.named == Tryz.prog.varsNamed 3))=true:=by kernel_rfl
theorem qD:((Rows.subsetOfRow.maps == (Tryz.f3.params.toList++Rows.subsetOfSpec.plain.varTypes Tryz.prog).any (Tryz.prog.mapsRec ·)))=true:=by kernel_rfl
theorem pw:((Rows.subsetOfRow.ifaces == (Tryz.f3.params.toList++Rows.subsetOfSpec.plain.varTypes Tryz.prog).any (Tryz.prog.ifacesRec ·)))=true:=by kernel_rfl
theorem p7:((Rows.subsetOfRow.mapsOut == Tryz.prog.mapsAmong Tryz.f3.resultTypes.toList))=true:=by kernel_rfl
theorem qS:((Rows.subsetOfRow.loops == (Tryz.f3.params.toList++Rows.subsetOfSpec.plain.varTypes Tryz.prog).any (Tryz.prog.loopsFrom ·)))=true:=by kernel_rfl
theorem qa:((Rows.subsetOfRow.wideKeys == (Tryz.f3.params.toList++Rows.subsetOfSpec.plain.varTypes Tryz.prog++Tryz.f3.resultTypes.toList).any (Tryz.prog.wideKeysFrom ·)))=true:=by kernel_rfl
theorem qA:(Rows.subsetOfSpec.vars.all (Tryz.prog.varReadable ·))=true:=by kernel_rfl
theorem qI:(Tryz.f3.resultTypes.all (fun t=>Tryz.prog.readableRec t && decide (t<Tryz.prog.types.size)))=true:=by kernel_rfl
theorem pW:((Rows.subsetOfRow.ifacesOut == Tryz.f3.resultTypes.toList.any (Tryz.prog.ifacesRec ·)))=true:=by kernel_rfl
theorem py:((Rows.subsetOfRow.loopsOut == Tryz.f3.resultTypes.toList.any (Tryz.prog.loopsFrom ·)))=true:=by kernel_rfl
theorem qR:((Rows.subsetOfRow.plainKeys == Tryz.prog.plainKeys))=true:=by kernel_rfl
theorem pg:(Rows.subsetOfRow.shortTexts.isNone)=true:=by kernel_rfl
theorem pK:((Rows.subsetOfRow.lifted == Tryz.prog.liftsFinal))=true:=by kernel_rfl
theorem pM:((Tryz.prog.make == some Rows.subsetOfRow.make))=true:=by kernel_rfl
theorem pN:((Rows.subsetOfRow.kinds == (if Rows.subsetOfRow.domain.isEmpty then [] else Tryz.f3.params.toList.map fun t=>match Tryz.prog.underlying t with | some (.int k)=>some k | _=>none)))=true:=by kernel_rfl
theorem pA:((Rows.subsetOfRow.pinned == Rows.subsetOfRow.pinnedBy))=true:=by kernel_rfl
theorem p4:((Rows.subsetOfRow.veiled == (Tryz.f3.params.toList++Rows.subsetOfSpec.plain.varTypes Tryz.prog++Tryz.f3.resultTypes.toList).any (Tryz.prog.veiledRec ·)))=true:=by kernel_rfl
theorem qQ:(Rows.subsetOfRow.veiledFits Tryz.prog Tryz.f3.params.toList (Tryz.f3.params.toList++Rows.subsetOfSpec.plain.varTypes Tryz.prog++Tryz.f3.resultTypes.toList))=true:=by kernel_rfl
end Go.Proofs.YthfodompfpdmgaaGreatDoor

namespace Go.Proofs.YthfodompfpdmgaaGreatDoor
open Go.Ab
open Go.ChangeShapes Go.WideShapes Go.ChangeAt Go.RowKit
theorem bw {a b:Bool} (ha:a=true) (hb:b=true):(a && b)=true:=by rw [ha,hb];rfl
theorem DS:(laidOutB Tryz.prog)=true:=by kernel_rfl
theorem Cw:(mapsRowed Tryz.prog)=true:=by kernel_rfl
theorem yf:((Tryz.prog.stops == []))=true:=by kernel_rfl
theorem y9:((Tryz.prog.stopKnobs == []))=true:=by kernel_rfl
theorem BJ:(Tryz.prog.stopsHeard)=true:=by kernel_rfl
theorem zI:(Tryz.prog.mayEnter)=true:=by kernel_rfl
end Go.Proofs.YthfodompfpdmgaaGreatDoor

namespace Go.Proofs.YthfodompfpdmgaaGreatDoor
open Go.Ab
open Go.ChangeShapes Go.WideShapes Go.ChangeAt Go.RowKit
set_option maxRecDepth 100000 in
theorem lF (os:Os) (started:os.Started) (H:Type) (enc:TypeId × Value→H) :
  ReturnsInHanded {} Tryz.checked os 3 .any (fun w args=>(Rows.subsetOfSpec.pre enc Tryz.prog Tryz.f3 [] false w args∧laidMetH Tryz.prog mV w)∧sizedMet enc Tryz.prog Tryz.f3 (OpenSpec.ofChange Rows.subsetOfSpec) false w args)
   (Rows.subsetOfSpec.post enc Tryz.prog Tryz.f3 false true false false):=by
 refine returnsInHanded_of_change_and (C:=Tryz.checked) (X:=fun w _=>laidMetH Tryz.prog mV w) (fun _ _ _ hh h=>h.of_heap hh) Tryz.own started (by kernel_rfl) Tryz.func3
  (ChangeSpec.witness_at (enc:=enc) (C:=Tryz.checked) (os:=os) (X:=fun w _=>laidMetH Tryz.prog mV w) false (oJ os) #[.agg #[.slice none 0 0,.int .i64 0],.int .i64 0] 8 (World.laidAll_os _ _ _) (by kernel_rfl) (by kernel_rfl) (by kernel_rfl) (by kernel_rfl) (by kernel_rfl) (nX os _)) ?_
 intro W base args ds gs before hval0 hW _ _ hL _
 have hval:∀ (j:Nat) t v,Tryz.f3.params[j]?=some t→args[j]?=some v→Value.okWide Tryz.prog W .any base t v:=hval0
 have hW':=hW
 obtain ⟨p,q,hA0,hV,rfl,hfz,hnd⟩:=hW
 have hA:DataW.TrodAll enc Tryz.prog W 0 (fun _=>true) true Tryz.f3.params.toList args.toList ds p:=hA0
 rw [Tryz.params3] at hA hval
 obtain ⟨v0,v1,d0,d1,p0,p1,rfl,rfl,rfl,h0,h1⟩:=trodAll_two hA
 obtain ⟨rfl,rfl⟩:=trodVars_none hV
 clear hA0 hval0
 obtain ⟨tt,fz,hG⟩:=rM hL
 obtain ⟨x0,rfl,_⟩:=okWide_struct Tryz.underlying24 (hval 0 24 v0 rfl rfl)
 obtain ⟨e0,k0,r0⟩:=yb (m:=30) (show shp Tryz.prog 30 24=some tsT by kernel_rfl) h0
 obtain ⟨b1,rfl,rfl,rfl,w1⟩:=open_int Tryz.underlying3 (hval 1 3 v1 rfl rfl) h1
 have eF:Rows.subsetOfSpec.fn H ([d0,.lit (.int .i64 b1)]++[])={ results:=[.lit (.bool true)],args:=[d0,.lit (.int .i64 b1)] }:=rfl
 refine (rz (rG (t:=tt) (fz:=fz) k0 b1) hG (vs:=#[.agg x0,.int .i64 b1]) rfl ?_).mono ?_
 ·intro i d hi
  match i,hi with
  | 0,hi=>obtain rfl:=Option.some.inj hi;exact r0
  | 1,hi=>obtain rfl:=Option.some.inj hi;exact .int _ _
 rintro e W' ⟨v,r,rfl,rfl,hext,_,_,_,_,hv⟩
 obtain rfl:=hv.bool
 have hlt:∀ x∈p0++[],x.block<W.heap.size:=fun x hx=>by simpa using hW'.lt x (by simpa using hx)
 refine ⟨_,rfl,_,_,_,[],p0++[],[],hW',?_,?_,?_,hext.frame _,fun h=>by cases h⟩
 ·rw [eF];exact trodAll_mk1 (shut_bool Tryz.underlying4 true)
 ·rw [eF];exact trodAll_mk2 (By (by kernel_rfl) (of_decide_eq_true (by kernel_rfl)) h0 hext (fun x hx=>hlt x (by simp [hx]))) (shut_int Tryz.underlying3 w1)
 ·rw [eF];rfl
set_option maxRecDepth 100000 in
theorem mT:joinedFacts Tryz.prog 3 Tryz.f3 Rows.subsetOfSpec Rows.subsetOfRow=true:=by
 unfold joinedFacts
 exact bw (bw (bw (bw (bw (bw (bw (bw (bw (bw (bw (bw (bw (bw (bw (bw (bw (bw (bw (bw (bw (bw (bw (bw (bw (bw (bw (bw (bw (bw (bw sq DS) Cw) rS) rZ) r9) yf) sC) y9) qo) qz) pJ) pL) qD) pw) p7) qS) qa) qA) qI) pW) py) qR) pg) BJ) zI) pK) pM) pN) pA) p4) qQ
theorem nB:Tryz.pinned.checked.prog.funcNamed Rows.subsetOfRow.func=some 3:=by kernel_rfl
theorem og:decide (Tryz.f3.isInstance Tryz.pinned.checked.prog Rows.subsetOfRow.origin Rows.subsetOfRow.targs)=true:=by kernel_rfl
theorem nV:Rows.SubsetOfSaid :=
 OpenClaim.holds_of_wide 3 Tryz.f3 rfl rfl rfl rfl rfl rfl rfl ⟨rfl,rfl,rfl,rfl,rfl⟩ rfl rfl rfl rfl rfl nB Tryz.func3 mT
  (of_decide_eq_true og) (by unfold Func.isWrapper;rw [if_neg (of_decide_eq_false (by kernel_rfl))];exact ⟨rfl,rfl⟩)
  (fun os started H enc _=>lF os started H enc)
theorem subsetOf_card:Rows.SubsetOfCardSaid :=
 Claim7.holds_tied_plain_at .later [] [.data,.data,.data] true (true, "4d361e6c60dedf1f0fe11f2dd6e1809c6dd77005e69c51100a47dc2ae00d04af") false
  nV (fun _ h=>by cases h) (by kernel_rfl) (fun _ h=>by cases h) subsetOf_row_tie rfl ⟨rfl,rfl⟩ (by kernel_rfl) rfl
  (fun f fn hf hfn=>by
   obtain rfl:f=3:=Option.some.inj ((show Tryz.prog.funcNamed "syntagma/syntagmalaw25.SubsetOf" = some 3 by kernel_rfl).symm.trans hf) |>.symm
   obtain rfl:fn=Tryz.f3:=(Option.some.inj (Tryz.func3.symm.trans hfn)).symm
   exact ⟨by kernel_rfl,fun j t ht=>by
    rw [Tryz.params3] at ht
    match j,ht with
    | 0,ht=>obtain rfl:=Option.some.inj ht;exact (show Tryz.prog.wantsStandIn 24=false by kernel_rfl)
    | 1,ht=>obtain rfl:=Option.some.inj ht;exact (show Tryz.prog.wantsStandIn 3=false by kernel_rfl)⟩)
  (by kernel_rfl)
end Go.Proofs.YthfodompfpdmgaaGreatDoor

