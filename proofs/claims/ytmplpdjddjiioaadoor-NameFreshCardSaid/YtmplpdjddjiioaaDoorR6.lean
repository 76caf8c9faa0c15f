/-
  NameFresh returns true at any string and any slice of strings, and they read behind the call as they read before; conditions: none but those that the given card states (the three tables lie as the program's text lays them).
-/
import Derived.Test.YtmplpdjddjiioaaDoorP1
import Derived.Test.YtmplpdjddjiioaaDoorP2
import Derived.Test.YtmplpdjddjiioaaDoorN7
import Derived.Test.YtmplpdjddjiioaaDoorCards
set_option linter.all false
namespace Go.Proofs.YtmplpdjddjiioaaDoor
open Go.Ab
open Go.ChangeShapes Go.WideShapes Go.ChangeAt Go.RowKit

set_option maxRecDepth 100000 in
theorem nameFresh_lifted (os : Os) (started : os.Started) (H : Type) (enc : TypeId × Value → H) :
    ReturnsInHanded {} Tryd.checked os 7 .any (fun w args => (Rows.nameFreshSpec.pre enc Tryd.prog Tryd.f7 [] false w args ∧ laidMetH Tryd.prog laidL w) ∧ sizedMet enc Tryd.prog Tryd.f7 (OpenSpec.ofChange Rows.nameFreshSpec) false w args)
      (Rows.nameFreshSpec.post enc Tryd.prog Tryd.f7 false true false false) := by
  refine returnsInHanded_of_change_and (C := Tryd.checked) (X := fun w _ => laidMetH Tryd.prog laidL w) (fun _ _ _ hh h => h.of_heap hh) Tryd.own started (by kernel_rfl) Tryd.func7
    (ChangeSpec.witness_at (enc := enc) (C := Tryd.checked) (os := os) (X := fun w _ => laidMetH Tryd.prog laidL w) false (laidWorld os) #[.string ⟨#[]⟩, .slice none 0 0] 8 (World.laidAll_os _ _ _) (by kernel_rfl) (by kernel_rfl) (by kernel_rfl) (by kernel_rfl) (by kernel_rfl) (laidWorld_met os _)) ?_
  intro W base args ds gs before hval0 hW _ _ hL _
  have hval : ∀ (j : Nat) t v, Tryd.f7.params[j]? = some t → args[j]? = some v → Value.okWide Tryd.prog W .any base t v := hval0
  have hW' := hW
  obtain ⟨p, q, hA0, hV, rfl, hfz, hnd⟩ := hW
  have hA : DataW.TrodAll enc Tryd.prog W 0 (fun _ => true) true Tryd.f7.params.toList args.toList ds p := hA0
  rw [Tryd.params7] at hA hval
  obtain ⟨v0, v1, d0, d1, p0, p1, rfl, rfl, rfl, h0, h1⟩ := trodAll_two hA
  obtain ⟨rfl, rfl⟩ := trodVars_none hV
  clear hA0 hval0
  obtain ⟨x0, rfl⟩ := okWide_string Tryd.underlying9 (hval 0 9 v0 rfl rfl)
  obtain ⟨e0, k0, r0⟩ := reads_one (m := 9) (show shp Tryd.prog 9 9 = some [.str] by kernel_rfl) rfl h0
  obtain ⟨x1, y1, z1, rfl⟩ := okWide_slice Tryd.underlying32 (hval 1 32 v1 rfl rfl)
  obtain ⟨e1, k1, r1⟩ := reads_one (m := 9) (show shp Tryd.prog 9 32 = some [.sl none [.str]] by kernel_rfl) rfl h1
  obtain ⟨tt, fz, hG⟩ := tab_of_laid hL
  have eF : Rows.nameFreshSpec.fn H ([d0, d1] ++ []) = { results := [.lit (.bool true)], args := [d0, d1] } := rfl
  refine (calls_of_HP (nameFresh_hp (t := tt) (fz := fz) e0 e1 k0 k1) hG (vs := #[.string x0, .slice x1 y1 z1]) rfl ?_).mono ?_
  · intro i d hi
    match i, hi with
    | 0, hi => obtain rfl := Option.some.inj hi; exact r0
    | 1, hi => obtain rfl := Option.some.inj hi; exact r1
  rintro e W' ⟨v, r, rfl, rfl, hext, _, _, _, _, hv⟩
  obtain rfl := hv.bool
  have hlt : ∀ x ∈ p0 ++ p1, x.block < W.heap.size := fun x hx => by simpa using hW'.lt x (by simpa using hx)
  refine ⟨_, rfl, _, _, _, [], p0 ++ p1, [], hW', ?_, ?_, ?_, hext.frame _, fun h => by cases h⟩
  · rw [eF]; exact trodAll_mk1 (shut_bool Tryd.underlying4 true)
  · rw [eF]; exact trodAll_mk2 (ext_trod (by kernel_rfl) (of_decide_eq_true (by kernel_rfl)) h0 hext (fun x hx => hlt x (by simp [hx]))) (ext_trod (by kernel_rfl) (of_decide_eq_true (by kernel_rfl)) h1 hext (fun x hx => hlt x (by simp [hx])))
  · rw [eF]; rfl
theorem nameFresh_holds : Rows.NameFreshSaid :=
  OpenClaim.holds_of_wide 7 Tryd.f7 rfl rfl rfl rfl rfl rfl rfl ⟨rfl, rfl, rfl, rfl, rfl⟩ rfl rfl rfl rfl rfl (by kernel_rfl) Tryd.func7 (by kernel_rfl)
    (of_decide_eq_true (by kernel_rfl)) (by unfold Func.isWrapper; rw [if_neg (of_decide_eq_false (by kernel_rfl))]; exact ⟨rfl, rfl⟩)
    (fun os started H enc _ => nameFresh_lifted os started H enc)
/-- The tied card. -/
theorem nameFresh_card : Rows.NameFreshCardSaid :=
  Claim7.holds_tied_plain_at .later [] [.data, .data, .data] true (true, "1449f010ab96e19f4a0cf3c93ee87c87675e58cf2685452ac8af953e1cc0f759") false
    nameFresh_holds (fun _ h => by cases h) (by kernel_rfl) (fun _ h => by cases h) nameFresh_row_tie rfl ⟨rfl, rfl⟩ (by kernel_rfl) rfl
    (fun f fn hf hfn => by
      obtain rfl : f = 7 := Option.some.inj ((show Tryd.prog.funcNamed "syntagma/syntagmalaw03.NameFresh" = some 7 by kernel_rfl).symm.trans hf) |>.symm
      obtain rfl : fn = Tryd.f7 := (Option.some.inj (Tryd.func7.symm.trans hfn)).symm
      exact ⟨by kernel_rfl, fun j t ht => by
        rw [Tryd.params7] at ht
        match j, ht with
        | 0, ht => obtain rfl := Option.some.inj ht; exact (show Tryd.prog.wantsStandIn 9 = false by kernel_rfl)
        | 1, ht => obtain rfl := Option.some.inj ht; exact (show Tryd.prog.wantsStandIn 32 = false by kernel_rfl)⟩)
    (by kernel_rfl)
end Go.Proofs.YtmplpdjddjiioaaDoor
