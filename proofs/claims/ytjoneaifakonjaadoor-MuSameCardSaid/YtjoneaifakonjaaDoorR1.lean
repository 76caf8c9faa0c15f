/-
  MuSame returns true at any type, which reads behind the call as it read before; conditions: none but those that the given card states (the three tables lie as the program's text lays them; the law reads none of them but through strconv.Itoa at small numbers, which reads none).
-/
import Derived.Test.YtjoneaifakonjaaDoorP1
import Derived.Test.YtjoneaifakonjaaDoorPJ
import Derived.Test.YtjoneaifakonjaaDoorCards
set_option linter.all false
namespace Go.Proofs.YtjoneaifakonjaaDoor
open Go.Ab
open Go.ChangeShapes Go.WideShapes Go.ChangeAt Go.RowKit

set_option maxRecDepth 100000 in
theorem muSame_lifted (os : Os) (started : os.Started) (H : Type) (enc : TypeId × Value → H) :
    ReturnsInHanded {} Tryd.checked os 3 .any (fun w args => (Rows.muSameSpec.pre enc Tryd.prog Tryd.f3 [] false w args ∧ laidMetH Tryd.prog laidL w) ∧ sizedMet enc Tryd.prog Tryd.f3 (OpenSpec.ofChange Rows.muSameSpec) false w args)
      (Rows.muSameSpec.post enc Tryd.prog Tryd.f3 false true false false) := by
  refine returnsInHanded_of_change_and (C := Tryd.checked) (X := fun w _ => laidMetH Tryd.prog laidL w) (fun _ _ _ hh h => h.of_heap hh) Tryd.own started (by kernel_rfl) Tryd.func3
    (ChangeSpec.witness_at (enc := enc) (C := Tryd.checked) (os := os) (X := fun w _ => laidMetH Tryd.prog laidL w) false (laidWorld os) #[.agg #[.slice none 0 0, .int .i64 0]] 8 (World.laidAll_os _ _ _) (by kernel_rfl) (by kernel_rfl) (by kernel_rfl) (by kernel_rfl) (by kernel_rfl) (laidWorld_met os _)) ?_
  intro W base args ds gs before hval0 hW _ _ _ _
  have hval : ∀ (j : Nat) t v, Tryd.f3.params[j]? = some t → args[j]? = some v → Value.okWide Tryd.prog W .any base t v := hval0
  have hW' := hW
  obtain ⟨p, q, hA0, hV, rfl, hfz, hnd⟩ := hW
  have hA : DataW.TrodAll enc Tryd.prog W 0 (fun _ => true) true Tryd.f3.params.toList args.toList ds p := hA0
  rw [Tryd.params3] at hA hval
  obtain ⟨v0, d0, rfl, rfl, h0⟩ := trodAll_one hA
  obtain ⟨rfl, rfl⟩ := trodVars_none hV
  clear hA0 hval0
  obtain ⟨x0, rfl, _⟩ := okWide_struct Tryd.underlying24 (hval 0 24 v0 rfl rfl)
  obtain ⟨e0, k0, r0⟩ := reads_agg (m := 30) (show shp Tryd.prog 30 24 = some tsT by kernel_rfl) h0
  have eF : Rows.muSameSpec.fn H ([d0] ++ []) = { results := [.lit (.bool true)], args := [d0] } := rfl
  refine (calls_of_HP (G := []) (muSame_hp k0) (by simp) (vs := #[.agg x0]) rfl ?_).mono ?_
  · intro i d hi
    match i, hi with
    | 0, hi => obtain rfl := Option.some.inj hi; exact r0
  rintro e W' ⟨v, r, rfl, rfl, hext, _, _, _, _, hv⟩
  obtain rfl := hv.bool
  have hlt : ∀ x ∈ p, x.block < W.heap.size := fun x hx => by simpa using hW'.lt x (by simpa using hx)
  refine ⟨_, rfl, _, _, _, [], p, [], hW', ?_, ?_, ?_, hext.frame _, fun h => by cases h⟩
  · rw [eF]; exact trodAll_mk1 (shut_bool Tryd.underlying4 true)
  · rw [eF]; exact trodAll_mk1 (ext_trod (by kernel_rfl) (of_decide_eq_true (by kernel_rfl)) h0 hext hlt)
  · rw [eF]; rfl
theorem muSame_holds : Rows.MuSameSaid :=
  OpenClaim.holds_of_wide 3 Tryd.f3 rfl rfl rfl rfl rfl rfl rfl ⟨rfl, rfl, rfl, rfl, rfl⟩ rfl rfl rfl rfl rfl (by kernel_rfl) Tryd.func3 (by kernel_rfl)
    (of_decide_eq_true (by kernel_rfl)) (by unfold Func.isWrapper; rw [if_neg (of_decide_eq_false (by kernel_rfl))]; exact ⟨rfl, rfl⟩)
    (fun os started H enc _ => muSame_lifted os started H enc)
/-- The tied card. -/
theorem muSame_card : Rows.MuSameCardSaid :=
  Claim7.holds_tied_plain_at .later [] [.data, .data, .data] true (true, "e592ff83b2fe94c3da1a0e6d39859364c0b30060b13cefcbbf4d239def0eda4b") false
    muSame_holds (fun _ h => by cases h) (by kernel_rfl) (fun _ h => by cases h) muSame_row_tie rfl ⟨rfl, rfl⟩ (by kernel_rfl) rfl
    (fun f fn hf hfn => by
      obtain rfl : f = 3 := Option.some.inj ((show Tryd.prog.funcNamed "syntagma/syntagmalaw33.MuSame" = some 3 by kernel_rfl).symm.trans hf) |>.symm
      obtain rfl : fn = Tryd.f3 := (Option.some.inj (Tryd.func3.symm.trans hfn)).symm
      exact ⟨by kernel_rfl, fun j t ht => by
        rw [Tryd.params3] at ht
        match j, ht with
        | 0, ht => obtain rfl := Option.some.inj ht; exact (show Tryd.prog.wantsStandIn 24 = false by kernel_rfl)⟩)
    (by kernel_rfl)
end Go.Proofs.YtjoneaifakonjaaDoor
