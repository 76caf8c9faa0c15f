/-
  PolarSides returns true at any type and any side; what came in reads behind the call as it read before; conditions: none.
-/
import Derived.Test.YtmplpdjddjiioaaP1
import Derived.Test.YtmplpdjddjiioaaYJ
set_option linter.all false
namespace Go.Proofs.Ytmplpdjddjiioaa
open Go.Ab
open Go.ChangeShapes Go.WideShapes Go.ChangeAt Go.RowKit
set_option maxRecDepth 100000 in
theorem polarSides_lifted (os : Os) (started : os.Started) (H : Type) (enc : TypeId × Value → H) :
    ReturnsInHanded {} Try.checked os 4 .any (Rows.polarSidesSpec.pre6 enc Try.prog Try.f4 [] false) (Rows.polarSidesSpec.post enc Try.prog Try.f4 false true false false) := by
  refine returnsInHanded_of_change (C := Try.checked) Try.own started (by kernel_rfl) Try.func4
    (ChangeSpec.witness6 (enc := enc) (C := Try.checked) false ⟨#[], #[.agg #[.slice none 0 0, .int .i64 0], .int .i64 0], []⟩ 8 (by kernel_rfl) (by kernel_rfl) (by kernel_rfl) (by kernel_rfl)) ?_
  intro W base args ds gs before hval0 hW _ _
  have hval : ∀ (j : Nat) t v, Try.f4.params[j]? = some t → args[j]? = some v → Value.okWide Try.prog W .any base t v := hval0
  have hW' := hW
  obtain ⟨p, q, hA0, hV, rfl, hfz, hnd⟩ := hW
  have hA : DataW.TrodAll enc Try.prog W 0 (fun _ => true) true Try.f4.params.toList args.toList ds p := hA0
  rw [Try.params4] at hA hval
  obtain ⟨v0, v1, d0, d1, p0, p1, rfl, rfl, rfl, h0, h1⟩ := trodAll_two hA
  obtain ⟨rfl, rfl⟩ := trodVars_none hV
  obtain ⟨b, rfl, rfl, rfl, wb⟩ := open_int Try.underlying3 (hval 1 3 v1 rfl rfl) h1
  clear hA0 hval0
  obtain ⟨x0, rfl, _⟩ := okWide_struct Try.underlying24 (hval 0 24 v0 rfl rfl)
  obtain ⟨e0, k0, r0⟩ := reads_agg (m := 30) (show shp Try.prog 30 24 = some tsT by kernel_rfl) h0
  have eF : Rows.polarSidesSpec.fn H ([d0, .lit (.int .i64 b)] ++ []) = { results := [.lit (.bool true)], args := [d0, .lit (.int .i64 b)] } := rfl
  refine (calls_of_HP (G := []) (polarSides_hp k0 b) (by simp) (vs := #[.agg x0, .int .i64 b]) rfl ?_).mono ?_
  · intro i d hi
    match i, hi with
    | 0, hi => obtain rfl := Option.some.inj hi; exact r0
    | 1, hi => obtain rfl := Option.some.inj hi; exact .int _ _
  rintro e W' ⟨v, r, rfl, rfl, hext, _, _, _, _, hv⟩
  obtain rfl := hv.bool
  have hlt : ∀ x ∈ p0, x.block < W.heap.size := fun x hx => by simpa using hW'.lt x (by simpa using hx)
  refine ⟨_, rfl, _, _, _, [], p0 ++ [], [], hW', ?_, ?_, ?_, hext.frame _, fun h => by cases h⟩
  · rw [eF]; exact trodAll_mk1 (shut_bool Try.underlying4 true)
  · rw [eF]; exact trodAll_mk2 (ext_trod (by kernel_rfl) (of_decide_eq_true (by kernel_rfl)) h0 hext hlt) (shut_int Try.underlying3 wb)
  · rw [eF]; rfl
theorem polarSides_holds : Rows.PolarSidesSaid :=
  OpenClaim.holds_of_wide 4 Try.f4 rfl rfl rfl rfl rfl rfl rfl ⟨rfl, rfl, rfl, rfl, rfl⟩ rfl rfl rfl rfl rfl (by kernel_rfl) Try.func4 (by kernel_rfl)
    (of_decide_eq_true (by kernel_rfl)) (by unfold Func.isWrapper; rw [if_neg (of_decide_eq_false (by kernel_rfl))]; exact ⟨rfl, rfl⟩)
    (fun os started H enc _ => polarSides_lifted os started H enc)
end Go.Proofs.Ytmplpdjddjiioaa
