/-
  The rows' frame at this seat: what came in reads behind the call as it did. (with the parts that follow it)
-/
import Derived.Test.YtejpnabbmgpmaaaGreatWB
import Derived.Test.YtejpnabbmgpmaaaGreatWJ
import Derived.Test.YtejpnabbmgpmaaaGreatRows
import Derived.ProofKit
import Derived.JoinedOf
import Derived.ChangeMaps5
namespace Go.Proofs.YtejpnabbmgpmaaaGreat
open Go.Ab
open Go.ChangeShapes Go.WideShapes Go.ChangeAt Go.RowKit
theorem Tryz.own : ownKnob Tryz.prog.godebug = none := by kernel_rfl
theorem Tryz.laidOut : laidOutB Tryz.prog = true := by kernel_rfl
theorem ext_trod {H : Type} {enc : TypeId × Value → H} {t : TypeId} (hr : Tryz.prog.readableRec t = true) (hrow : t < Tryz.prog.types.size) {W W' : World} {v : Value} {d : DataW H} {ps : List MemPlace}
    (h : DataW.Trod enc Tryz.prog W 0 (fun _ => true) true t v d ps) (he : Ext W W') (hlt : ∀ x ∈ ps, x.block < W.heap.size) :
    DataW.Trod enc Tryz.prog W' 0 (fun b => decide (b < W.heap.size)) true t v d ps :=
  WideElems.Trod_stays Tryz.laidOut hr hrow h (fun x hx => by
    have h1 := he.old x.block (hlt x hx)
    cases x with
    | cell b off => show W'.cell? _ = W.cell? _; unfold World.cell?; rw [show W'.heap[b]? = W.heap[b]? from h1]
    | map b => exact h1) (fun x hx => by simpa using hlt x hx)
open Go.ChangeShapes Go.WideShapes Go.ChangeAt Go.RowKit
theorem pm_k1 : (Rows.parseMayRow.wf (OpenSpec.ofChange Rows.parseMaySpec)) = true := by kernel_rfl
theorem pm_k2 : (laidOutB Tryz.prog) = true := by kernel_rfl
theorem pm_k3 : (mapsRowed Tryz.prog) = true := by kernel_rfl
theorem pm_k4 : (Tryz.f3.params.all (Tryz.prog.readableRec ·)) = true := by kernel_rfl
theorem pm_k5 : (namedTie Tryz.prog Rows.parseMayRow.named Rows.parseMaySpec.vars) = true := by kernel_rfl
theorem pm_k6 : ((Rows.parseMayRow.stops == [])) = true := by kernel_rfl
theorem pm_k7 : ((Tryz.prog.stops == [])) = true := by kernel_rfl
theorem pm_k8 : ((Rows.parseMayRow.knobs == [])) = true := by kernel_rfl
theorem pm_k9 : ((Tryz.prog.stopKnobs == [])) = true := by kernel_rfl
theorem pm_k10 : ((Rows.parseMayRow.inPlace == Tryz.prog.inPlace 3)) = true := by kernel_rfl
theorem pm_k11 : ((Rows.parseMayRow.unfollowed == Tryz.prog.unfollowed 3)) = true := by kernel_rfl
theorem pm_k12 : ((Rows.parseMayRow.recurses == Tryz.prog.recurses 3)) = true := by kernel_rfl
theorem pm_k13 : ((Rows.parseMayRow.named == Tryz.prog.varsNamed 3)) = true := by kernel_rfl
theorem pm_k14 : ((Rows.parseMayRow.maps == (Tryz.f3.params.toList ++ Rows.parseMaySpec.plain.varTypes Tryz.prog).any (Tryz.prog.mapsRec ·))) = true := by kernel_rfl
theorem pm_k15 : ((Rows.parseMayRow.ifaces == (Tryz.f3.params.toList ++ Rows.parseMaySpec.plain.varTypes Tryz.prog).any (Tryz.prog.ifacesRec ·))) = true := by kernel_rfl
theorem pm_k16 : ((Rows.parseMayRow.mapsOut == Tryz.prog.mapsAmong Tryz.f3.resultTypes.toList)) = true := by kernel_rfl
theorem pm_k17 : ((Rows.parseMayRow.loops == (Tryz.f3.params.toList ++ Rows.parseMaySpec.plain.varTypes Tryz.prog).any (Tryz.prog.loopsFrom ·))) = true := by kernel_rfl
theorem pm_k18 : ((Rows.parseMayRow.wideKeys == (Tryz.f3.params.toList ++ Rows.parseMaySpec.plain.varTypes Tryz.prog ++ Tryz.f3.resultTypes.toList).any (Tryz.prog.wideKeysFrom ·))) = true := by kernel_rfl
theorem pm_k19 : (Rows.parseMaySpec.vars.all (Tryz.prog.varReadable ·)) = true := by kernel_rfl
theorem pm_k20 : (Tryz.f3.resultTypes.all (fun t => Tryz.prog.readableRec t && decide (t < Tryz.prog.types.size))) = true := by kernel_rfl
theorem pm_k21 : ((Rows.parseMayRow.ifacesOut == Tryz.f3.resultTypes.toList.any (Tryz.prog.ifacesRec ·))) = true := by kernel_rfl
theorem pm_k22 : ((Rows.parseMayRow.loopsOut == Tryz.f3.resultTypes.toList.any (Tryz.prog.loopsFrom ·))) = true := by kernel_rfl
theorem pm_k23 : ((Rows.parseMayRow.plainKeys == Tryz.prog.plainKeys)) = true := by kernel_rfl
theorem pm_k24 : (Rows.parseMayRow.shortTexts.isNone) = true := by kernel_rfl
theorem pm_k25 : (Tryz.prog.stopsHeard) = true := by kernel_rfl
theorem pm_k26 : (Tryz.prog.mayEnter) = true := by kernel_rfl
theorem pm_k27 : ((Rows.parseMayRow.lifted == Tryz.prog.liftsFinal)) = true := by kernel_rfl
theorem pm_k28 : ((Tryz.prog.make == some Rows.parseMayRow.make)) = true := by kernel_rfl
theorem pm_k29 : ((Rows.parseMayRow.kinds == (if Rows.parseMayRow.domain.isEmpty then [] else Tryz.f3.params.toList.map fun t => match Tryz.prog.underlying t with | some (.int k) => some k | _ => none))) = true := by kernel_rfl
theorem pm_k30 : ((Rows.parseMayRow.pinned == Rows.parseMayRow.pinnedBy)) = true := by kernel_rfl
theorem pm_k31 : ((Rows.parseMayRow.veiled == (Tryz.f3.params.toList ++ Rows.parseMaySpec.plain.varTypes Tryz.prog ++ Tryz.f3.resultTypes.toList).any (Tryz.prog.veiledRec ·))) = true := by kernel_rfl
theorem pm_k32 : (Rows.parseMayRow.veiledFits Tryz.prog Tryz.f3.params.toList (Tryz.f3.params.toList ++ Rows.parseMaySpec.plain.varTypes Tryz.prog ++ Tryz.f3.resultTypes.toList)) = true := by kernel_rfl
open Go.ChangeShapes Go.WideShapes Go.ChangeAt Go.RowKit
theorem and_i {a b : Bool} (ha : a = true) (hb : b = true) : (a && b) = true := by rw [ha, hb]; rfl
set_option maxRecDepth 100000 in
theorem parseMay_lifted (os : Os) (started : os.Started) (H : Type) (enc : TypeId × Value → H) :
    ReturnsInHanded {} Tryz.checked os 3 .any (Rows.parseMaySpec.pre6 enc Tryz.prog Tryz.f3 [] false) (Rows.parseMaySpec.post enc Tryz.prog Tryz.f3 false true false false) := by
  refine returnsInHanded_of_change (C := Tryz.checked) Tryz.own started (by kernel_rfl) Tryz.func3
    (ChangeSpec.witness6 (enc := enc) (C := Tryz.checked) false ⟨#[], #[.string ⟨#[]⟩], []⟩ 8 (by kernel_rfl) (by kernel_rfl) (by kernel_rfl) (by kernel_rfl)) ?_
  intro W base args ds gs before hval0 hW _ _
  have hval : ∀ (j : Nat) t v, Tryz.f3.params[j]? = some t → args[j]? = some v → Value.okWide Tryz.prog W .any base t v := hval0
  have hW' := hW
  obtain ⟨p, q, hA0, hV, rfl, hfz, hnd⟩ := hW
  have hA : DataW.TrodAll enc Tryz.prog W 0 (fun _ => true) true Tryz.f3.params.toList args.toList ds p := hA0
  rw [Tryz.params3] at hA hval
  obtain ⟨v0, d0, rfl, rfl, h0⟩ := trodAll_one hA
  obtain ⟨rfl, rfl⟩ := trodVars_none hV
  obtain ⟨sb, rfl, rfl, rfl, wb⟩ := Go.ChangeMaps.open_string Tryz.underlying9 (hval 0 9 v0 rfl rfl) h0
  obtain ⟨b, rfl⟩ : ∃ l : List UInt8, sb = ⟨l.toArray⟩ := ⟨sb.data.toList, by simp⟩
  clear hA0 hval0
  have e1 : Rows.parseMaySpec.fn H ([.lit (.string b)] ++ []) = { results := [.lit (.bool true)], args := [.lit (.string b)] } := rfl
  refine (calls_of_HP (G := []) (f3_ok b) (by simp) (vs := #[.string ⟨b.toArray⟩]) rfl ?_).mono ?_
  · intro i d hi
    match i, hi with
    | 0, hi => obtain rfl := Option.some.inj hi; exact .str _
  rintro e W' ⟨v, r, rfl, rfl, hext, _, _, _, _, hv⟩
  obtain rfl := hv.bool
  refine ⟨_, rfl, _, _, _, [], [], [], hW', ?_, ?_, ?_, hext.frame _, fun h => by cases h⟩
  · rw [e1]; exact trodAll_mk1 (shut_bool Tryz.underlying4 true)
  · rw [e1]; exact trodAll_mk1 (Go.ChangeMaps.shut_string Tryz.underlying9 wb)
  · rw [e1]; rfl
set_option maxRecDepth 100000 in
theorem parseMay_facts : joinedFacts Tryz.prog 3 Tryz.f3 Rows.parseMaySpec Rows.parseMayRow = true := by
  unfold joinedFacts
  exact and_i (and_i (and_i (and_i (and_i (and_i (and_i (and_i (and_i (and_i (and_i (and_i (and_i (and_i (and_i (and_i (and_i (and_i (and_i (and_i (and_i (and_i (and_i (and_i (and_i (and_i (and_i (and_i (and_i (and_i (and_i pm_k1 pm_k2) pm_k3) pm_k4) pm_k5) pm_k6) pm_k7) pm_k8) pm_k9) pm_k10) pm_k11) pm_k12) pm_k13) pm_k14) pm_k15) pm_k16) pm_k17) pm_k18) pm_k19) pm_k20) pm_k21) pm_k22) pm_k23) pm_k24) pm_k25) pm_k26) pm_k27) pm_k28) pm_k29) pm_k30) pm_k31) pm_k32
theorem parseMay_named : Tryz.pinned.checked.prog.funcNamed Rows.parseMayRow.func = some 3 := by kernel_rfl
theorem parseMay_inst : decide (Tryz.f3.isInstance Tryz.pinned.checked.prog Rows.parseMayRow.origin Rows.parseMayRow.targs) = true := by kernel_rfl
theorem parseMay_holds : Rows.ParseMaySaid :=
  OpenClaim.holds_of_wide 3 Tryz.f3 rfl rfl rfl rfl rfl rfl rfl ⟨rfl, rfl, rfl, rfl, rfl⟩ rfl rfl rfl rfl rfl parseMay_named Tryz.func3 parseMay_facts
    (of_decide_eq_true parseMay_inst) (by unfold Func.isWrapper; rw [if_neg (of_decide_eq_false (by kernel_rfl))]; exact ⟨rfl, rfl⟩)
    (fun os started H enc _ => parseMay_lifted os started H enc)
end Go.Proofs.YtejpnabbmgpmaaaGreat
