/-
  The rows' frame at this seat: what came in reads behind the call as it did. (with the parts that follow it)
-/
import Derived.Test.YtejpnabbmgpmaaaGreatWB
import Derived.Test.YtejpnabbmgpmaaaGreatWK
import Derived.Test.YtejpnabbmgpmaaaGreatRows
import Derived.ProofKit
import Derived.JoinedOf
import Derived.ChangeMaps5
namespace Go.Proofs.YtejpnabbmgpmaaaGreat
open Go.Ab
open Go.ChangeShapes Go.WideShapes Go.ChangeAt Go.RowKit
theorem Tryz.own : ownKnob Tryz.prog.godebug = none := by kernel_rfl
theorem Tryz.laidOut : laidOutB Tryz.prog = true := by kernel_rfl
theorem ext_trod {H : Type} {enc : TypeId × Value → H} {t : TypeId} (hr : Tryz.prog.readableRec t = true) (hrow : t < Tryz.prog.types.size) {W W' : World} {v : Value} {d : DataW H} {ps : List MemPlace}
    (h : DataW.Trod enc Tryz.prog W 0 (fun _ => true) true t v d ps) (he : Ext W W') (hlt : ∀ x ∈ ps, x.block < W.heap.size) :
    DataW.Trod enc Tryz.prog W' 0 (fun b => decide (b < W.heap.size)) true t v d ps :=
  WideElems.Trod_stays Tryz.laidOut hr hrow h (fun x hx => by
    have h1 := he.old x.block (hlt x hx)
    cases x with
    | cell b off => show W'.cell? _ = W.cell? _; unfold World.cell?; rw [show W'.heap[b]? = W.heap[b]? from h1]
    | map b => exact h1) (fun x hx => by simpa using hlt x hx)
open Go.ChangeShapes Go.WideShapes Go.ChangeAt Go.RowKit
theorem ct_k1 : (Rows.costTellsRow.wf (OpenSpec.ofChange Rows.costTellsSpec)) = true := by kernel_rfl
theorem ct_k2 : (laidOutB Tryz.prog) = true := by kernel_rfl
theorem ct_k3 : (mapsRowed Tryz.prog) = true := by kernel_rfl
theorem ct_k4 : (Tryz.f4.params.all (Tryz.prog.readableRec ·)) = true := by kernel_rfl
theorem ct_k5 : (namedTie Tryz.prog Rows.costTellsRow.named Rows.costTellsSpec.vars) = true := by kernel_rfl
theorem ct_k6 : ((Rows.costTellsRow.stops == [])) = true := by kernel_rfl
theorem ct_k7 : ((Tryz.prog.stops == [])) = true := by kernel_rfl
theorem ct_k8 : ((Rows.costTellsRow.knobs == [])) = true := by kernel_rfl
theorem ct_k9 : ((Tryz.prog.stopKnobs == [])) = true := by kernel_rfl
theorem ct_k10 : ((Rows.costTellsRow.inPlace == Tryz.prog.inPlace 4)) = true := by kernel_rfl
theorem ct_k11 : ((Rows.costTellsRow.unfollowed == Tryz.prog.unfollowed 4)) = true := by kernel_rfl
theorem ct_k12 : ((Rows.costTellsRow.recurses == Tryz.prog.recurses 4)) = true := by kernel_rfl
theorem ct_k13 : ((Rows.costTellsRow.named == Tryz.prog.varsNamed 4)) = true := by kernel_rfl
theorem ct_k14 : ((Rows.costTellsRow.maps == (Tryz.f4.params.toList ++ Rows.costTellsSpec.plain.varTypes Tryz.prog).any (Tryz.prog.mapsRec ·))) = true := by kernel_rfl
theorem ct_k15 : ((Rows.costTellsRow.ifaces == (Tryz.f4.params.toList ++ Rows.costTellsSpec.plain.varTypes Tryz.prog).any (Tryz.prog.ifacesRec ·))) = true := by kernel_rfl
theorem ct_k16 : ((Rows.costTellsRow.mapsOut == Tryz.prog.mapsAmong Tryz.f4.resultTypes.toList)) = true := by kernel_rfl
theorem ct_k17 : ((Rows.costTellsRow.loops == (Tryz.f4.params.toList ++ Rows.costTellsSpec.plain.varTypes Tryz.prog).any (Tryz.prog.loopsFrom ·))) = true := by kernel_rfl
theorem ct_k18 : ((Rows.costTellsRow.wideKeys == (Tryz.f4.params.toList ++ Rows.costTellsSpec.plain.varTypes Tryz.prog ++ Tryz.f4.resultTypes.toList).any (Tryz.prog.wideKeysFrom ·))) = true := by kernel_rfl
theorem ct_k19 : (Rows.costTellsSpec.vars.all (Tryz.prog.varReadable ·)) = true := by kernel_rfl
theorem ct_k20 : (Tryz.f4.resultTypes.all (fun t => Tryz.prog.readableRec t && decide (t < Tryz.prog.types.size))) = true := by kernel_rfl
theorem ct_k21 : ((Rows.costTellsRow.ifacesOut == Tryz.f4.resultTypes.toList.any (Tryz.prog.ifacesRec ·))) = true := by kernel_rfl
theorem ct_k22 : ((Rows.costTellsRow.loopsOut == Tryz.f4.resultTypes.toList.any (Tryz.prog.loopsFrom ·))) = true := by kernel_rfl
theorem ct_k23 : ((Rows.costTellsRow.plainKeys == Tryz.prog.plainKeys)) = true := by kernel_rfl
theorem ct_k24 : (Rows.costTellsRow.shortTexts.isNone) = true := by kernel_rfl
theorem ct_k25 : (Tryz.prog.stopsHeard) = true := by kernel_rfl
theorem ct_k26 : (Tryz.prog.mayEnter) = true := by kernel_rfl
theorem ct_k27 : ((Rows.costTellsRow.lifted == Tryz.prog.liftsFinal)) = true := by kernel_rfl
theorem ct_k28 : ((Tryz.prog.make == some Rows.costTellsRow.make)) = true := by kernel_rfl
theorem ct_k29 : ((Rows.costTellsRow.kinds == (if Rows.costTellsRow.domain.isEmpty then [] else Tryz.f4.params.toList.map fun t => match Tryz.prog.underlying t with | some (.int k) => some k | _ => none))) = true := by kernel_rfl
theorem ct_k30 : ((Rows.costTellsRow.pinned == Rows.costTellsRow.pinnedBy)) = true := by kernel_rfl
theorem ct_k31 : ((Rows.costTellsRow.veiled == (Tryz.f4.params.toList ++ Rows.costTellsSpec.plain.varTypes Tryz.prog ++ Tryz.f4.resultTypes.toList).any (Tryz.prog.veiledRec ·))) = true := by kernel_rfl
theorem ct_k32 : (Rows.costTellsRow.veiledFits Tryz.prog Tryz.f4.params.toList (Tryz.f4.params.toList ++ Rows.costTellsSpec.plain.varTypes Tryz.prog ++ Tryz.f4.resultTypes.toList)) = true := by kernel_rfl
open Go.ChangeShapes Go.WideShapes Go.ChangeAt Go.RowKit
theorem and_i {a b : Bool} (ha : a = true) (hb : b = true) : (a && b) = true := by rw [ha, hb]; rfl
def bgSh : List TS := [.int .i64, .int .i64, .int .i64, .int .i64]
theorem bg_in {ds : List D} (h : oks bgSh ds) : ∃ b, .agg ds = bgD b := by
  match ds, h with
  | [.int k1 a, .int k2 b, .int k3 c, .int k4 d], h =>
    obtain ⟨g1, g2, g3, g4, _⟩ := h
    obtain rfl : k1 = .i64 := g1.1
    obtain rfl : k2 = .i64 := g2.1
    obtain rfl : k3 = .i64 := g3.1
    obtain rfl : k4 = .i64 := g4.1
    exact ⟨(a, b, c, d), rfl⟩
theorem costTells_hp {G} {d1 d2 : List D} (h1 : oks exSh d1) (h2 : oks bgSh d2) : HP Tryz.prog G 4 [.agg d1, .agg d2] (fun r => r = .d (.bool true)) := by
  obtain ⟨ns, hw, hl, hn⟩ := ex_in h1
  obtain ⟨b, hb⟩ := bg_in h2
  rw [hb]
  exact f4_ok b hw hl hn
set_option maxRecDepth 100000 in
theorem costTells_lifted (os : Os) (started : os.Started) (H : Type) (enc : TypeId × Value → H) :
    ReturnsInHanded {} Tryz.checked os 4 .any (Rows.costTellsSpec.pre6 enc Tryz.prog Tryz.f4 [] false) (Rows.costTellsSpec.post enc Tryz.prog Tryz.f4 false true false false) := by
  refine returnsInHanded_of_change (C := Tryz.checked) Tryz.own started (by kernel_rfl) Tryz.func4
    (ChangeSpec.witness6 (enc := enc) (C := Tryz.checked) false ⟨#[], #[.agg #[.slice none 0 0], .agg #[.int .i64 0, .int .i64 0, .int .i64 0, .int .i64 0]], []⟩ 8 (by kernel_rfl) (by kernel_rfl) (by kernel_rfl) (by kernel_rfl)) ?_
  intro W base args ds gs before hval0 hW _ _
  have hval : ∀ (j : Nat) t v, Tryz.f4.params[j]? = some t → args[j]? = some v → Value.okWide Tryz.prog W .any base t v := hval0
  have hW' := hW
  obtain ⟨p, q, hA0, hV, rfl, hfz, hnd⟩ := hW
  have hA : DataW.TrodAll enc Tryz.prog W 0 (fun _ => true) true Tryz.f4.params.toList args.toList ds p := hA0
  rw [Tryz.params4] at hA hval
  obtain ⟨v0, v1, d0, d1, p0, p1, rfl, rfl, rfl, h0, h1⟩ := trodAll_two hA
  obtain ⟨rfl, rfl⟩ := trodVars_none hV
  clear hA0 hval0
  obtain ⟨x0, rfl, _⟩ := okWide_struct Tryz.underlying26 (hval 0 26 v0 rfl rfl)
  obtain ⟨x1, rfl, _⟩ := okWide_struct Tryz.underlying36 (hval 1 36 v1 rfl rfl)
  obtain ⟨e0, k0, r0⟩ := reads_agg (m := 30) (show shp Tryz.prog 30 26 = some exSh by kernel_rfl) h0
  obtain ⟨e1, k1, r1⟩ := reads_agg (m := 30) (show shp Tryz.prog 30 36 = some bgSh by kernel_rfl) h1
  have eF : Rows.costTellsSpec.fn H ([d0, d1] ++ []) = { results := [.lit (.bool true)], args := [d0, d1] } := rfl
  refine (calls_of_HP (G := []) (costTells_hp k0 k1) (by simp) (vs := #[.agg x0, .agg x1]) rfl ?_).mono ?_
  · intro i d hi
    match i, hi with
    | 0, hi => obtain rfl := Option.some.inj hi; exact r0
    | 1, hi => obtain rfl := Option.some.inj hi; exact r1
  rintro e W' ⟨v, r, rfl, rfl, hext, _, _, _, _, hv⟩
  obtain rfl := hv.bool
  have hlt : ∀ x ∈ p0 ++ p1, x.block < W.heap.size := fun x hx => by simpa using hW'.lt x (by simpa using hx)
  refine ⟨_, rfl, _, _, _, [], p0 ++ p1, [], hW', ?_, ?_, ?_, hext.frame _, fun h => by cases h⟩
  · rw [eF]; exact trodAll_mk1 (shut_bool Tryz.underlying4 true)
  · rw [eF]; exact trodAll_mk2 (ext_trod (by kernel_rfl) (of_decide_eq_true (by kernel_rfl)) h0 hext (fun x hx => hlt x (by simp [hx]))) (ext_trod (by kernel_rfl) (of_decide_eq_true (by kernel_rfl)) h1 hext (fun x hx => hlt x (by simp [hx])))
  · rw [eF]; rfl
set_option maxRecDepth 100000 in
theorem costTells_facts : joinedFacts Tryz.prog 4 Tryz.f4 Rows.costTellsSpec Rows.costTellsRow = true := by
  unfold joinedFacts
  exact and_i (and_i (and_i (and_i (and_i (and_i (and_i (and_i (and_i (and_i (and_i (and_i (and_i (and_i (and_i (and_i (and_i (and_i (and_i (and_i (and_i (and_i (and_i (and_i (and_i (and_i (and_i (and_i (and_i (and_i (and_i ct_k1 ct_k2) ct_k3) ct_k4) ct_k5) ct_k6) ct_k7) ct_k8) ct_k9) ct_k10) ct_k11) ct_k12) ct_k13) ct_k14) ct_k15) ct_k16) ct_k17) ct_k18) ct_k19) ct_k20) ct_k21) ct_k22) ct_k23) ct_k24) ct_k25) ct_k26) ct_k27) ct_k28) ct_k29) ct_k30) ct_k31) ct_k32
theorem costTells_named : Tryz.pinned.checked.prog.funcNamed Rows.costTellsRow.func = some 4 := by kernel_rfl
theorem costTells_inst : decide (Tryz.f4.isInstance Tryz.pinned.checked.prog Rows.costTellsRow.origin Rows.costTellsRow.targs) = true := by kernel_rfl
theorem costTells_holds : Rows.CostTellsSaid :=
  OpenClaim.holds_of_wide 4 Tryz.f4 rfl rfl rfl rfl rfl rfl rfl ⟨rfl, rfl, rfl, rfl, rfl⟩ rfl rfl rfl rfl rfl costTells_named Tryz.func4 costTells_facts
    (of_decide_eq_true costTells_inst) (by unfold Func.isWrapper; rw [if_neg (of_decide_eq_false (by kernel_rfl))]; exact ⟨rfl, rfl⟩)
    (fun os started H enc _ => costTells_lifted os started H enc)
end Go.Proofs.YtejpnabbmgpmaaaGreat
