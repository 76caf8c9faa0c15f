/-
  The chapter's example.
-/
import Derived.Test.YtmplpdjddjiioaaXC
set_option linter.all false
namespace Go.Proofs.Ytmplpdjddjiioaa
open Go.Ab
def ns0 : List TN := [⟨11, 0, 0, []⟩, ⟨6, 0, 0, []⟩]
theorem sane0 : Sane ns0 := ⟨by decide, by intro n hn; simp [ns0] at hn; rcases hn with rfl | rfl <;> simp⟩
theorem rights0 : rightsB ns0 = true := by decide +kernel
theorem ends0 : endsB ns0 = true := endsB_true fun i hi => by
  have hi : i < 2 := hi
  refine .flat ?_
  rcases Nat.lt_or_ge i 1 with h | h
  · have : i = 0 := by omega
    subst this; rfl
  · have : i = 1 := by omega
    subst this; rfl
theorem may0 : mayZ ns0 1 = 0 := by
  unfold mayZ
  rw [rights0, ends0]
  decide
theorem spots0 {l : List Spot} (h : Spots ns0 1 l) : l = [(1, 1), (0, 2), (0, 1)] := by
  have hd : Dfs (kidsS ns0) [] [(1, 1)] [(1, 1), (0, 2), (0, 1)] := by
    have e1 : kidsS ns0 (1, 1) = [(0, 2), (0, 1)] := by decide +kernel
    have e2 : kidsS ns0 (0, 2) = [] := by decide +kernel
    have e3 : kidsS ns0 (0, 1) = [] := by decide +kernel
    refine Dfs.take (todo := []) (by decide) ?_
    rw [e1]
    refine Dfs.take (todo := [(0, 1)]) (by decide) ?_
    rw [e2]
    refine Dfs.take (todo := []) (by decide) ?_
    rw [e3]
    exact .done _
  exact h.1.fn hd
theorem uses0 : usesL ns0 [(1, 1), (0, 2), (0, 1)] = [(0, 3)] := by decide +kernel
def typ0 : D := .agg [.sl (some 4) [.agg [i64 11, i64 0, i64 0, .nils], .agg [i64 6, i64 0, i64 0, .nils]], i64 1]
theorem wk_node {F : D} {n : TN} (h : RawF F n.l) : Wk (.agg [i64 n.k, i64 n.a, i64 n.b, F]) (nodeD n) := by
  refine Wk.agg rfl (by simp [fldsD, D.scal]) fun i a b ha hb => ?_
  match i, ha, hb with
  | 0, ha, hb => cases ha; cases hb; exact .refl _
  | 1, ha, hb => cases ha; cases hb; exact .refl _
  | 2, ha, hb => cases ha; cases hb; exact .refl _
  | 3, ha, hb =>
    cases ha; cases hb
    rcases h with ⟨rfl, h⟩ | rfl
    · rw [h]; exact .nils _
    · exact .refl _
theorem okW_node (n : TN) : okW (some 4) (nodeD n) := ⟨rfl, by simp [fldsD, D.scal]⟩
theorem wk_type {xs : List D} {ns : List TN} {root : Int} (h : RawL xs ns) : Wk (.agg [.sl (some 4) xs, i64 root]) (typeS ns root) := by
  refine Wk.agg rfl (by simp [D.scal]) fun i a b ha hb => ?_
  match i, ha, hb with
  | 1, ha, hb => cases ha; cases hb; exact .refl _
  | 0, ha, hb =>
    cases ha; cases hb
    refine Wk.sl (by simp [h.len]) (fun b hb => by obtain ⟨n, _, rfl⟩ := List.mem_map.1 hb; exact okW_node n) fun i a b ha hb => ?_
    rw [List.getElem?_map, Option.map_eq_some_iff] at hb
    obtain ⟨n, hn, rfl⟩ := hb
    have hi := (List.getElem?_eq_some_iff.1 hn).1
    have hg := h.get i hi
    have hi2 : i < xs.length := by rw [h.len]; exact hi
    have e1 : xs.getD i .nilp = a := by simp [ha]
    have e2 : ns[i] = n := by
      have := List.getElem?_eq_getElem hi
      rw [this] at hn
      exact Option.some.inj hn
    rw [e1, e2] at hg
    obtain ⟨F, rfl, hF⟩ := hg
    refine ⟨rfl, fun j c d hc hd => ?_⟩
    match j, hc, hd with
    | 0, hc, hd => cases hc; cases hd; exact .refl _
    | 1, hc, hd => cases hc; cases hd; exact .refl _
    | 2, hc, hd => cases hc; cases hd; exact .refl _
    | 3, hc, hd =>
      cases hc; cases hd
      rcases hF with ⟨rfl, hF⟩ | rfl
      · rw [hF]; exact .nils _
      · exact .refl _
theorem wk0 : WkL [typ0] [typeS ns0 1] := ⟨wk_type ⟨⟨.nils, rfl, .inl ⟨rfl, rfl⟩⟩, ⟨.nils, rfl, .inl ⟨rfl, rfl⟩⟩, trivial⟩, trivial⟩
theorem str47 : Try.prog.structOk 47 = true := by kernel_rfl
set_option maxHeartbeats 1000000 in
theorem f9_ok {G} : HP Try.prog G 9 [] (fun r => r = .d (.bool true)) := by
  refine funP_ok Try.func9 rfl (by decide +kernel) (by simp [Try.ntmps9]) (veil fun E => ?_)
  simp only [go_sem, Nat.reduceEqDiff, Nat.reduceLT, ↓reduceIte, Nat.reduceAdd, Nat.reduceMul, Nat.reduceLeDiff, Nat.reduceSub, Nat.reduceBEq, Int.reduceEq, Int.reduceLT, Int.reduceLE, Int.reduceToNat, Int.reduceAdd, Int.reduceSub, Int.reduceNeg, UInt8.reduceToNat]
  refine e_frzA E [9] (some 4) _ rfl (by simp only [go_sem, Nat.reduceEqDiff, Nat.reduceLT, ↓reduceIte, Nat.reduceAdd, Nat.reduceMul, Nat.reduceLeDiff, Nat.reduceSub, Nat.reduceBEq, Int.reduceEq, Int.reduceLT, Int.reduceLE, Int.reduceToNat, Int.reduceAdd, Int.reduceSub, Int.reduceNeg, UInt8.reduceToNat]; rfl) ?_
  simp only [go_sem, Nat.reduceEqDiff, Nat.reduceLT, ↓reduceIte, Nat.reduceAdd, Nat.reduceMul, Nat.reduceLeDiff, Nat.reduceSub, Nat.reduceBEq, Int.reduceEq, Int.reduceLT, Int.reduceLE, Int.reduceToNat, Int.reduceAdd, Int.reduceSub, Int.reduceNeg, UInt8.reduceToNat]
  refine e_call E ((f14_ok ns0 1 sane0).wk wk0) rfl rfl (by simp) ?_
  rintro r hr
  rw [may0] at hr
  obtain ⟨l, rfl, hl⟩ := (hr.resolve_left (fun h => h.1 rfl)).2
  obtain rfl := spots0 hl
  rw [uses0, show ([((0 : Int), (3 : Int))] : List (Int × Int)).map spotD = [.agg [i64 0, i64 3]] from rfl]
  simp only [go_sem, Nat.reduceEqDiff, Nat.reduceLT, ↓reduceIte, Nat.reduceAdd, Nat.reduceMul, Nat.reduceLeDiff, Nat.reduceSub, Nat.reduceBEq, Int.reduceEq, Int.reduceLT, Int.reduceLE, Int.reduceToNat, Int.reduceAdd, Int.reduceSub, Int.reduceNeg, UInt8.reduceToNat]
  refine e_call E ((f7_ok ns0 1 sane0).wk wk0) rfl rfl (by simp) ?_
  rintro r hr
  rw [may0] at hr
  obtain ⟨l, rfl, hl⟩ := (hr.resolve_left (fun h => h.1 rfl)).2
  obtain rfl := spots0 hl
  unfold typeS intsD
  simp only [go_sem, Nat.reduceEqDiff, Nat.reduceLT, ↓reduceIte, Nat.reduceAdd, Nat.reduceMul, Nat.reduceLeDiff, Nat.reduceSub, Nat.reduceBEq, Int.reduceEq, Int.reduceLT, Int.reduceLE, Int.reduceToNat, Int.reduceAdd, Int.reduceSub, Int.reduceNeg, UInt8.reduceToNat]
  refine e_eqS E (r := true) str47 (by rw [ti47]) (by simp only [go_sem, Nat.reduceEqDiff, Nat.reduceLT, ↓reduceIte, Nat.reduceAdd, Nat.reduceMul, Nat.reduceLeDiff, Nat.reduceSub, Nat.reduceBEq, Int.reduceEq, Int.reduceLT, Int.reduceLE, Int.reduceToNat, Int.reduceAdd, Int.reduceSub, Int.reduceNeg, UInt8.reduceToNat]) rfl rfl (by simp [eqS, eqP, kOk, ti3]) ?_
  simp only [go_sem, Nat.reduceEqDiff, Nat.reduceLT, ↓reduceIte, Nat.reduceAdd, Nat.reduceMul, Nat.reduceLeDiff, Nat.reduceSub, Nat.reduceBEq, Int.reduceEq, Int.reduceLT, Int.reduceLE, Int.reduceToNat, Int.reduceAdd, Int.reduceSub, Int.reduceNeg, UInt8.reduceToNat]
  refine e_callB E [([48], none, [1, 2, 1].map i64)] (f12_ok [1, 2, 1] [1, 2, 1] (by decide)) (by rintro _ rfl; rfl) (by simp only [go_sem, Nat.reduceEqDiff, Nat.reduceLT, ↓reduceIte, Nat.reduceAdd, Nat.reduceMul, Nat.reduceLeDiff, Nat.reduceSub, Nat.reduceBEq, Int.reduceEq, Int.reduceLT, Int.reduceLE, Int.reduceToNat, Int.reduceAdd, Int.reduceSub, Int.reduceNeg, UInt8.reduceToNat]) (by simp only [go_sem, Nat.reduceEqDiff, Nat.reduceLT, ↓reduceIte, Nat.reduceAdd, Nat.reduceMul, Nat.reduceLeDiff, Nat.reduceSub, Nat.reduceBEq, Int.reduceEq, Int.reduceLT, Int.reduceLE, Int.reduceToNat, Int.reduceAdd, Int.reduceSub, Int.reduceNeg, UInt8.reduceToNat]; rfl) (by simp only [go_sem, Nat.reduceEqDiff, Nat.reduceLT, ↓reduceIte, Nat.reduceAdd, Nat.reduceMul, Nat.reduceLeDiff, Nat.reduceSub, Nat.reduceBEq, Int.reduceEq, Int.reduceLT, Int.reduceLE, Int.reduceToNat, Int.reduceAdd, Int.reduceSub, Int.reduceNeg, UInt8.reduceToNat]; rfl) (by simp) ?_
  rintro _ rfl
  simp only [go_sem, Nat.reduceEqDiff, Nat.reduceLT, ↓reduceIte, Nat.reduceAdd, Nat.reduceMul, Nat.reduceLeDiff, Nat.reduceSub, Nat.reduceBEq, Int.reduceEq, Int.reduceLT, Int.reduceLE, Int.reduceToNat, Int.reduceAdd, Int.reduceSub, Int.reduceNeg, UInt8.reduceToNat]
  refine e_call E (f17_ok 1) rfl rfl (by simp) ?_
  rintro _ rfl
  simp only [go_sem, Nat.reduceEqDiff, Nat.reduceLT, ↓reduceIte, Nat.reduceAdd, Nat.reduceMul, Nat.reduceLeDiff, Nat.reduceSub, Nat.reduceBEq, Int.reduceEq, Int.reduceLT, Int.reduceLE, Int.reduceToNat, Int.reduceAdd, Int.reduceSub, Int.reduceNeg, UInt8.reduceToNat]
  rfl
end Go.Proofs.Ytmplpdjddjiioaa
