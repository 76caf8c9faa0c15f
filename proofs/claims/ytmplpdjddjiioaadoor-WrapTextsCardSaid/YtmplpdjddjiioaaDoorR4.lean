/-
  WrapTexts returns true at any int64 and any string argument, and they read behind the call as they read before; conditions: none but those that the given card states (the three tables lie as the program's text lays them).
-/
import Derived.Test.YtmplpdjddjiioaaDoorP1
import Derived.Test.YtmplpdjddjiioaaDoorU9
import Derived.Test.YtmplpdjddjiioaaDoorCards
set_option linter.all false
namespace Go.Proofs.YtmplpdjddjiioaaDoor
open Go.Ab
open Go.ChangeShapes Go.WideShapes Go.ChangeAt Go.RowKit

set_option maxRecDepth 100000 in
theorem wrapTexts_lifted (os : Os) (started : os.Started) (H : Type) (enc : TypeId × Value → H) :
    ReturnsInHanded {} Tryd.checked os 8 .any (fun w args => (Rows.wrapTextsSpec.pre enc Tryd.prog Tryd.f8 [] false w args ∧ laidMetH Tryd.prog laidL w) ∧ sizedMet enc Tryd.prog Tryd.f8 (OpenSpec.ofChange Rows.wrapTextsSpec) false w args)
      (Rows.wrapTextsSpec.post enc Tryd.prog Tryd.f8 false true false false) := by
  refine returnsInHanded_of_change_and (C := Tryd.checked) (X := fun w _ => laidMetH Tryd.prog laidL w) (fun _ _ _ hh h => h.of_heap hh) Tryd.own started (by kernel_rfl) Tryd.func8
    (ChangeSpec.witness_at (enc := enc) (C := Tryd.checked) (os := os) (X := fun w _ => laidMetH Tryd.prog laidL w) false (laidWorld os) #[.int .i64 0, .string ⟨#[]⟩] 8 (World.laidAll_os _ _ _) (by kernel_rfl) (by kernel_rfl) (by kernel_rfl) (by kernel_rfl) (by kernel_rfl) (laidWorld_met os _)) ?_
  intro W base args ds gs before hval0 hW _ _ hL _
  have hval : ∀ (j : Nat) t v, Tryd.f8.params[j]? = some t → args[j]? = some v → Value.okWide Tryd.prog W .any base t v := hval0
  have hW' := hW
  obtain ⟨p, q, hA0, hV, rfl, hfz, hnd⟩ := hW
  have hA : DataW.TrodAll enc Tryd.prog W 0 (fun _ => true) true Tryd.f8.params.toList args.toList ds p := hA0
  rw [Tryd.params8] at hA hval
  obtain ⟨v0, v1, d0, d1, p0, p1, rfl, rfl, rfl, h0, h1⟩ := trodAll_two hA
  obtain ⟨rfl, rfl⟩ := trodVars_none hV
  obtain ⟨a, rfl, rfl, rfl, wa⟩ := open_int Tryd.underlying2 (hval 0 2 v0 rfl rfl) h0
  obtain ⟨sb, rfl, rfl, rfl, wb⟩ := Go.ChangeMaps.open_string Tryd.underlying9 (hval 1 9 v1 rfl rfl) h1
  obtain ⟨b, rfl⟩ : ∃ l : List UInt8, sb = ⟨l.toArray⟩ := ⟨sb.data.toList, by simp⟩
  clear hA0 hval0
  obtain ⟨tt, fz, hG⟩ := tab_of_laid hL
  have e1 : Rows.wrapTextsSpec.fn H ([.lit (.int .i64 a), .lit (.string b)] ++ []) = { results := [.lit (.bool true)], args := [.lit (.int .i64 a), .lit (.string b)] } := rfl
  refine (calls_of_HP (f8_ok (t := tt) (fz := fz) a b (inR_wf wa)) hG (vs := #[.int .i64 a, .string ⟨b.toArray⟩]) rfl ?_).mono ?_
  · intro i d hi
    match i, hi with
    | 0, hi => obtain rfl := Option.some.inj hi; exact .int _ _
    | 1, hi => obtain rfl := Option.some.inj hi; exact .str _
  rintro e W' ⟨v, r, rfl, rfl, hext, _, _, _, _, hv⟩
  obtain rfl := hv.bool
  refine ⟨_, rfl, _, _, _, [], [], [], hW', ?_, ?_, ?_, hext.frame _, fun h => by cases h⟩
  · rw [e1]; exact trodAll_mk1 (shut_bool Tryd.underlying4 true)
  · rw [e1]; exact trodAll_mk2 (shut_int Tryd.underlying2 wa) (Go.ChangeMaps.shut_string Tryd.underlying9 wb)
  · rw [e1]; rfl
theorem wrapTexts_holds : Rows.WrapTextsSaid :=
  OpenClaim.holds_of_wide 8 Tryd.f8 rfl rfl rfl rfl rfl rfl rfl ⟨rfl, rfl, rfl, rfl, rfl⟩ rfl rfl rfl rfl rfl (by kernel_rfl) Tryd.func8 (by kernel_rfl)
    (of_decide_eq_true (by kernel_rfl)) (by unfold Func.isWrapper; rw [if_neg (of_decide_eq_false (by kernel_rfl))]; exact ⟨rfl, rfl⟩)
    (fun os started H enc _ => wrapTexts_lifted os started H enc)
/-- The tied card. -/
theorem wrapTexts_card : Rows.WrapTextsCardSaid :=
  Claim7.holds_tied_plain_at .later [] [.data, .data, .data] true (true, "1449f010ab96e19f4a0cf3c93ee87c87675e58cf2685452ac8af953e1cc0f759") false
    wrapTexts_holds (fun _ h => by cases h) (by kernel_rfl) (fun _ h => by cases h) wrapTexts_row_tie rfl ⟨rfl, rfl⟩ (by kernel_rfl) rfl
    (fun f fn hf hfn => by
      obtain rfl : f = 8 := Option.some.inj ((show Tryd.prog.funcNamed "syntagma/syntagmalaw01.WrapTexts" = some 8 by kernel_rfl).symm.trans hf) |>.symm
      obtain rfl : fn = Tryd.f8 := (Option.some.inj (Tryd.func8.symm.trans hfn)).symm
      exact ⟨by kernel_rfl, fun j t ht => by
        rw [Tryd.params8] at ht
        match j, ht with
        | 0, ht => obtain rfl := Option.some.inj ht; exact (show Tryd.prog.wantsStandIn 2 = false by kernel_rfl)
        | 1, ht => obtain rfl := Option.some.inj ht; exact (show Tryd.prog.wantsStandIn 9 = false by kernel_rfl)⟩)
    (by kernel_rfl)
end Go.Proofs.YtmplpdjddjiioaaDoor
