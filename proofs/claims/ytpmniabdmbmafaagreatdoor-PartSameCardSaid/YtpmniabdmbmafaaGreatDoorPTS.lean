/-
  The rows' frame at this seat: the tables out of the row's condition; the witness. (with the parts that follow it)
-/
import Derived.Test.YtpmniabdmbmafaaGreatDoorPTD
import Derived.Test.YtpmniabdmbmafaaGreatDoorPTE
import Derived.Test.YtpmniabdmbmafaaGreatDoorPTR
import Derived.Test.YtpmniabdmbmafaaGreatDoorRows
import Derived.Test.YtpmniabdmbmafaaGreatDoorTie
import Derived.ProofKit
import Derived.JoinedOf
import Derived.ChangeMaps5
import Derived.LaidLaws
import Derived.LaidHandle
import Derived.Stop.Joined
import Derived.Lib.LaidTab
import Derived.Lay
import Derived.SevenTiedAt
import Derived.Test.YtpmniabdmbmafaaGreatDoorCards
set_option linter.all false
set_option maxHeartbeats 16000000
namespace Go.Proofs.YtpmniabdmbmafaaGreatDoor
open Go.Ab Go.Proofs.Tryz
open Go.ChangeShapes Go.WideShapes Go.ChangeAt Go.RowKit
theorem Tryz.own:ownKnob prog.godebug=none:=by kernel_rfl
def xH:List (String×DataW Unit):=[("math/bits.deBruijn32tab",Rows.laid_math_bits_deBruijn32tab),("math/bits.deBruijn64tab",Rows.laid_math_bits_deBruijn64tab),("internal/strconv.uint64pow10",Rows.laid_internal_strconv_uint64pow10)]
theorem OY{P:Program}{x:String×DataW Unit}{r:List (String×DataW Unit)}{W:World}(h:laidMet P (x::r) W):laidMet P r W:=by
 obtain⟨ps,⟨g,t,cs,fuel,p,q,h1,h2,h3,h4,h5,rfl⟩,hnd,hall⟩:=h;exact⟨q,h5,(alZ.1 hnd).2.1,fun b off hb=>hall b off (alB _ hb)⟩
theorem aaf:(prog.globals[1]?).map (·.type)=some 245:=by kernel_rfl
theorem aag{W:World}(h:laidMetH prog xH W):∃t fz,∀q∈GT t fz,W.heap[q.1]?=some q.2:=by
 have h1:laidMet prog xH W:=h;have h2:=Lib.tabIs_of_head (k:=.u64) (zs:=Lib.pow10Tab) (show prog.globalNamed "internal/strconv.uint64pow10" = some 1 by kernel_rfl) aaf (show prog.underlying 245=some (.array 20 186) by kernel_rfl) (show prog.underlying 186=some (.int .u64) by kernel_rfl) (by kernel_rfl) (by kernel_rfl) (OY (OY h1));unfold Lib.TabIs World.var? at h2;rw[show prog.globalNamed "internal/strconv.uint64pow10" = some 1 by kernel_rfl]at h2;simp only[Option.bind_some]at h2;split at h2
 .rename_i cs t fz hh;simp only[alE]at h2;subst h2;refine⟨t,fz,fun q hq=>?_⟩;obtain rfl:=ak3.1 hq;exact hh
 .cases h2
noncomputable def OZ(os:Os):World:=World.laidAll prog os xH
theorem aah(os:Os)(args:Array Value):laidMetH prog xH ((OZ os).forCall (fun _ _=>0) ⟨#[],args,[]⟩).memory :=
 laidMetH_of_parts (laidMet_laidAll args (by kernel_rfl) (by kernel_rfl)) (by kernel_rfl)
theorem Tryz.laidOut:laidOutB prog=true:=by kernel_rfl
theorem O1{H:Type}{enc:TypeId×Value->H}{t:TypeId}(hr:prog.readableRec t=true)(hrow:t<prog.types.size){W W':World}{v:Value}{d:DataW H}{ps:List MemPlace}
  (h:DataW.Trod enc prog W 0 (fun _=>true) true t v d ps) (he:Ext W W') (hlt:∀x∈ps,x.block<W.heap.size) :
  DataW.Trod enc prog W' 0 (fun b=>decide (b<W.heap.size)) true t v d ps :=
 WideElems.Trod_stays Tryz.laidOut hr hrow h (fun x hx=>by
  have h1:=he.old x.block (hlt x hx)
  cases x with
  |cell b off=>show W'.cell? _=W.cell? _;unfold World.cell?;rw[show W'.heap[b]?=W.heap[b]? from h1]
  |map b=>exact h1) (fun x hx=>by simpa using hlt x hx)
end Go.Proofs.YtpmniabdmbmafaaGreatDoor

namespace Go.Proofs.YtpmniabdmbmafaaGreatDoor
open Go.Ab Go.Proofs.Tryz
open Go.ChangeShapes Go.WideShapes Go.ChangeAt Go.RowKit
theorem aai:(Rows.partSameRow.wf (OpenSpec.ofChange Rows.partSameSpec))=true:=by kernel_rfl
theorem aaj:(Tryz.f4.params.all (prog.readableRec ·))=true:=by kernel_rfl
theorem aak:(namedTie prog Rows.partSameRow.named Rows.partSameSpec.vars)=true:=by kernel_rfl
theorem aal:((Rows.partSameRow.stops == []))=true:=by kernel_rfl
theorem aam:((Rows.partSameRow.knobs == []))=true:=by kernel_rfl
theorem aan:((Rows.partSameRow.inPlace == prog.inPlace 4))=true:=by kernel_rfl
theorem aao:((Rows.partSameRow.unfollowed == prog.unfollowed 4))=true:=by kernel_rfl
theorem aap:((Rows.partSameRow.recurses == prog.recurses 4))=true:=by kernel_rfl
theorem aaq:((Rows.partSameRow.named == prog.varsNamed 4))=true:=by kernel_rfl
theorem aar:((Rows.partSameRow.maps == (Tryz.f4.params.toList++Rows.partSameSpec.plain.varTypes prog).any (prog.mapsRec ·)))=true:=by kernel_rfl
theorem aas:((Rows.partSameRow.ifaces == (Tryz.f4.params.toList++Rows.partSameSpec.plain.varTypes prog).any (prog.ifacesRec ·)))=true:=by kernel_rfl
theorem aat:((Rows.partSameRow.mapsOut == prog.mapsAmong Tryz.f4.resultTypes.toList))=true:=by kernel_rfl
theorem aau:((Rows.partSameRow.loops == (Tryz.f4.params.toList++Rows.partSameSpec.plain.varTypes prog).any (prog.loopsFrom ·)))=true:=by kernel_rfl
theorem aav:((Rows.partSameRow.wideKeys == (Tryz.f4.params.toList++Rows.partSameSpec.plain.varTypes prog++Tryz.f4.resultTypes.toList).any (prog.wideKeysFrom ·)))=true:=by kernel_rfl
theorem aaw:(Rows.partSameSpec.vars.all (prog.varReadable ·))=true:=by kernel_rfl
theorem aax:(Tryz.f4.resultTypes.all (fun t=>prog.readableRec t&&decide (t<prog.types.size)))=true:=by kernel_rfl
theorem aay:((Rows.partSameRow.ifacesOut == Tryz.f4.resultTypes.toList.any (prog.ifacesRec ·)))=true:=by kernel_rfl
theorem aaz:((Rows.partSameRow.loopsOut == Tryz.f4.resultTypes.toList.any (prog.loopsFrom ·)))=true:=by kernel_rfl
theorem aaA:((Rows.partSameRow.plainKeys == prog.plainKeys))=true:=by kernel_rfl
theorem aaB:(Rows.partSameRow.shortTexts.isNone)=true:=by kernel_rfl
theorem aaC:((Rows.partSameRow.lifted == prog.liftsFinal))=true:=by kernel_rfl
theorem aaD:((prog.make == some Rows.partSameRow.make))=true:=by kernel_rfl
theorem aaE:((Rows.partSameRow.kinds == (if Rows.partSameRow.domain.isEmpty then[]else Tryz.f4.params.toList.map fun t=>match prog.underlying t with|some (.int k)=>some k|_=>none)))=true:=by kernel_rfl
theorem aaF:((Rows.partSameRow.pinned == Rows.partSameRow.pinnedBy))=true:=by kernel_rfl
theorem aaG:((Rows.partSameRow.veiled == (Tryz.f4.params.toList++Rows.partSameSpec.plain.varTypes prog++Tryz.f4.resultTypes.toList).any (prog.veiledRec ·)))=true:=by kernel_rfl
theorem aaH:(Rows.partSameRow.veiledFits prog Tryz.f4.params.toList (Tryz.f4.params.toList++Rows.partSameSpec.plain.varTypes prog++Tryz.f4.resultTypes.toList))=true:=by kernel_rfl
end Go.Proofs.YtpmniabdmbmafaaGreatDoor

namespace Go.Proofs.YtpmniabdmbmafaaGreatDoor
open Go.Ab Go.Proofs.Tryz
open Go.ChangeShapes Go.WideShapes Go.ChangeAt Go.RowKit
theorem fN{a b:Bool}(ha:a=true)(hb:b=true):(a&&b)=true:=by rw[ha,hb];rfl
theorem aaI:(laidOutB prog)=true:=by kernel_rfl
theorem aaJ:(mapsRowed prog)=true:=by kernel_rfl
theorem aaK:((prog.stops == []))=true:=by kernel_rfl
theorem aaL:((prog.stopKnobs == []))=true:=by kernel_rfl
theorem aaM:(prog.stopsHeard)=true:=by kernel_rfl
theorem aaN:(prog.mayEnter)=true:=by kernel_rfl
end Go.Proofs.YtpmniabdmbmafaaGreatDoor

namespace Go.Proofs.YtpmniabdmbmafaaGreatDoor
open Go.Ab Go.Proofs.Tryz
open Go.ChangeShapes Go.WideShapes Go.ChangeAt Go.RowKit
set_option maxRecDepth 100000 in
theorem akx(os:Os)(started:os.Started)(H:Type)(enc:TypeId×Value->H) :
  ReturnsInHanded {} Tryz.checked os 4 .any (fun w args=>(Rows.partSameSpec.pre enc prog Tryz.f4 [] false w args∧laidMetH prog xH w)∧sizedMet enc prog Tryz.f4 (OpenSpec.ofChange Rows.partSameSpec) false w args)
   (Rows.partSameSpec.post enc prog Tryz.f4 false true false false):=by
 refine returnsInHanded_of_change_and (C:=Tryz.checked) (X:=fun w _=>laidMetH prog xH w) (fun _ _ _ hh h=>h.of_heap hh) Tryz.own started (by kernel_rfl) func4
  (ChangeSpec.witness_at (enc:=enc) (C:=Tryz.checked) (os:=os) (X:=fun w _=>laidMetH prog xH w) false (OZ os) #[.agg #[.slice none 0 0,.int .i64 0],.agg #[.slice none 0 0,.int .i64 0]] 8 (World.laidAll_os _ _ _) (by kernel_rfl) (by kernel_rfl) (by kernel_rfl) (by kernel_rfl) (by kernel_rfl) (aah os _)) ?_
 intro W base args ds gs before hval0 hW _ _ hL _;have hval:∀(j:Nat) t v,Tryz.f4.params[j]?=some t->args[j]?=some v->Value.okWide prog W .any base t v:=hval0;have hW':=hW;obtain⟨p,q,hA0,hV,rfl,hfz,hnd⟩:=hW;have hA:DataW.TrodAll enc prog W 0 (fun _=>true) true Tryz.f4.params.toList args.toList ds p:=hA0;rw[params4]at hA hval;obtain⟨v0,v1,d0,d1,p0,p1,rfl,rfl,rfl,h0,h1⟩:=trodAll_two hA;obtain⟨rfl,rfl⟩:=trodVars_none hV;clear hA0 hval0;obtain⟨tt,fz,hG⟩:=aag hL;obtain⟨x0,rfl,_⟩:=okWide_struct underlying38 (hval 0 38 v0 rfl rfl);obtain⟨e0,k0,r0⟩:=OX (m:=30) (show shp prog 30 38=some Va by kernel_rfl) h0;obtain⟨l0,s0,a0,b0,g0⟩:=aiH k0;obtain⟨x1,rfl,_⟩:=okWide_struct underlying24 (hval 1 24 v1 rfl rfl);obtain⟨e1,k1,r1⟩:=OX (m:=30) (show shp prog 30 24=some tsT by kernel_rfl) h1;have eF:Rows.partSameSpec.fn H ([d0,d1]++[])={ results:=[.lit (.bool true)],args:=[d0,d1] }:=rfl;refine(Yv (akw (t:=tt) (fz:=fz) a0 b0 g0 k1) hG (vs:=#[.agg x0,.agg x1]) rfl ?_).mono ?_
 .intro i d hi
  match i,hi with
  |0,hi=>obtain rfl:=alo hi;exact r0
  |1,hi=>obtain rfl:=alo hi;exact r1
 rintro e W' ⟨v,r,rfl,rfl,hext,_,_,_,_,hv⟩;obtain rfl:=hv.bool;have hlt:∀x∈p0++p1,x.block<W.heap.size:=fun x hx=>by simpa using hW'.lt x (by simpa using hx)
 refine⟨_,rfl,_,_,_,[],p0++p1,[],hW',?_,?_,?_,hext.frame _,fun h=>by cases h⟩
 .rw[eF];exact trodAll_mk1 (shut_bool underlying4 true)
 .rw[eF];exact trodAll_mk2 (O1 (by kernel_rfl) (of_decide_eq_true (by kernel_rfl)) h0 hext (fun x hx=>hlt x (by simp[hx]))) (O1 (by kernel_rfl) (of_decide_eq_true (by kernel_rfl)) h1 hext (fun x hx=>hlt x (by simp[hx])))
 .rw[eF];rfl
set_option maxRecDepth 100000 in
theorem aky:joinedFacts prog 4 Tryz.f4 Rows.partSameSpec Rows.partSameRow=true:=by
 unfold joinedFacts;exact fN (fN (fN (fN (fN (fN (fN (fN (fN (fN (fN (fN (fN (fN (fN (fN (fN (fN (fN (fN (fN (fN (fN (fN (fN (fN (fN (fN (fN (fN (fN aai aaI) aaJ) aaj) aak) aal) aaK) aam) aaL) aan) aao) aap) aaq) aar) aas) aat) aau) aav) aaw) aax) aay) aaz) aaA) aaB) aaM) aaN) aaC) aaD) aaE) aaF) aaG) aaH
theorem akz:Tryz.pinned.checked.prog.funcNamed Rows.partSameRow.func=some 4:=by kernel_rfl
theorem akA:decide (Tryz.f4.isInstance Tryz.pinned.checked.prog Rows.partSameRow.origin Rows.partSameRow.targs)=true:=by kernel_rfl
theorem akB:Rows.PartSameSaid :=
 OpenClaim.holds_of_wide 4 Tryz.f4 rfl rfl rfl rfl rfl rfl rfl ⟨rfl,rfl,rfl,rfl,rfl⟩ rfl rfl rfl rfl rfl akz func4 aky
  (of_decide_eq_true akA) (by unfold Func.isWrapper;rw[if_neg (of_decide_eq_false (by kernel_rfl))];exact⟨rfl,rfl⟩)
  (fun os started H enc _=>akx os started H enc)
theorem partSame_card:Rows.PartSameCardSaid :=
 Claim7.holds_tied_plain_at .later [] [.data,.data,.data] true (true, "de4a8935c18d3972328e4d4b3aab1a3f0f1457597fa4b24829adf2d535dc83c0") false
  akB (fun _ h=>by cases h) (by kernel_rfl) (fun _ h=>by cases h) partSame_row_tie rfl ⟨rfl,rfl⟩ (by kernel_rfl) rfl
  (fun f fn hf hfn=>by
   obtain rfl:f=4:=alo ((show prog.funcNamed "syntagma/syntagmalaw26.PartSame" = some 4 by kernel_rfl).symm.trans hf) |>.symm;obtain rfl:fn=Tryz.f4:=(alo (func4.symm.trans hfn)).symm
   exact⟨by kernel_rfl,fun j t ht=>by
    rw[params4]at ht
    match j,ht with
    |0,ht=>obtain rfl:=alo ht;exact(show prog.wantsStandIn 38=false by kernel_rfl)
    |1,ht=>obtain rfl:=alo ht;exact(show prog.wantsStandIn 24=false by kernel_rfl)⟩)
  (by kernel_rfl)
end Go.Proofs.YtpmniabdmbmafaaGreatDoor

