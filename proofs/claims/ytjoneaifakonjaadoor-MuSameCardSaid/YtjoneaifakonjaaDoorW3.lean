/-
  Types that may be: both answers.
-/
import Derived.Test.YtjoneaifakonjaaDoorW2
set_option linter.all false
namespace Go.Proofs.YtjoneaifakonjaaDoor
open Go.Ab
noncomputable def endsB (ns : List TN) : Bool := @decide (∀ i, i < ns.length → Ends ns i) (Classical.propDecidable _)
theorem endsB_true {ns : List TN} (h : ∀ i, i < ns.length → Ends ns i) : endsB ns = true := by unfold endsB; simpa using h
theorem endsB_false {ns : List TN} (h : ¬ ∀ i, i < ns.length → Ends ns i) : endsB ns = false := by unfold endsB; simpa using h
theorem whites_le_len (C : List Int) : whites C ≤ C.length := List.countP_le_length
theorem col0 (ns : List TN) : Col ns (List.replicate ns.length 0) := by
  have h : ∀ j, (List.replicate ns.length (0 : Int)).getD j 0 = 0 := fun j => by
    simp only [List.getD_eq_getElem?_getD, List.getElem?_replicate]
    split <;> rfl
  exact ⟨by simp, fun j => .inl (h j), fun j hj => by rw [h j] at hj; cases hj⟩
theorem f14_ok {G} (ns : List TN) (root : Int) (hN : ns.length ≤ 2000) (hfl : ∀ n ∈ ns, n.l.length ≤ 1000000) (hk : LatIn ns) : HP Tryd.prog G 14 [typeS ns root] (fun r => r = .d (.bool (endsB ns))) := by
  unfold typeS
  refine funP_ok Tryd.func14 rfl (by decide +kernel) (by simp [Tryd.ntmps14]) (veil fun E => ?_)
  simp only [go_sem, Nat.reduceEqDiff, Nat.reduceLT, ↓reduceIte, Nat.reduceAdd, Nat.reduceMul, Nat.reduceLeDiff, Nat.reduceSub, Nat.reduceBEq, Int.reduceEq, Int.reduceLT, Int.reduceLE, Int.reduceToNat, Int.reduceAdd, Int.reduceSub, Int.reduceNeg, UInt8.reduceToNat]
  refine ⟨⟨by omega, by omega, by omega, by omega⟩, ?_⟩
  refine c_frB E [1] (.agg [.sl (some 4) (ns.map nodeD), i64 root]) rfl rfl ?_
  simp only [go_sem, Nat.reduceEqDiff, Nat.reduceLT, ↓reduceIte, Nat.reduceAdd, Nat.reduceMul, Nat.reduceLeDiff, Nat.reduceSub, Nat.reduceBEq, Int.reduceEq, Int.reduceLT, Int.reduceLE, Int.reduceToNat, Int.reduceAdd, Int.reduceSub, Int.reduceNeg, UInt8.reduceToNat]
  have hrep : List.replicate ns.length (D.int IntKind.i64 0) = (List.replicate ns.length 0).map i64 := by rw [List.map_replicate]
  rw [hrep]
  refine loopO_e E (X := { x : Nat × List Int // x.1 ≤ ns.length ∧ Col ns x.2 ∧ (∀ j, x.2.getD j 0 ≠ 1) ∧ ∀ k, k < x.1 → Ends ns k })
    (fun x => [(4, .bx [4] 0), (13, .d (i64 ns.length)), (14, .d (i64 x.1.1))]) (fun x => cO ns root x.1.2) [3, 9, 4] (fun x => ns.length - x.1.1) ⟨(0, List.replicate ns.length 0), Nat.zero_le _, col0 ns, fun j => ?_, fun k hk => by omega⟩ ?_ ?_
  · simp only [List.getD_eq_getElem?_getD, List.getElem?_replicate]
    split <;> decide
  · unfold cO
    simp only [go_sem, Nat.reduceEqDiff, Nat.reduceLT, ↓reduceIte, Nat.reduceAdd, Nat.reduceMul, Nat.reduceLeDiff, Nat.reduceSub, Nat.reduceBEq, Int.reduceEq, Int.reduceLT, Int.reduceLE, Int.reduceToNat, Int.reduceAdd, Int.reduceSub, Int.reduceNeg, UInt8.reduceToNat]
    all_goals rfl
  rintro ⟨⟨q, C⟩, hq, hC, hg, he⟩ E'
  simp only at hq hC hg he ⊢
  unfold cO
  simp only [go_sem, Nat.reduceEqDiff, Nat.reduceLT, ↓reduceIte, Nat.reduceAdd, Nat.reduceMul, Nat.reduceLeDiff, Nat.reduceSub, Nat.reduceBEq, Int.reduceEq, Int.reduceLT, Int.reduceLE, Int.reduceToNat, Int.reduceAdd, Int.reduceSub, Int.reduceNeg, UInt8.reduceToNat]
  refine e_ifd E' (fun h4 => ?_) (fun h4 => ?_) <;> simp only [go_sem, Nat.reduceEqDiff, Nat.reduceLT, ↓reduceIte, Nat.reduceAdd, Nat.reduceMul, Nat.reduceLeDiff, Nat.reduceSub, Nat.reduceBEq, Int.reduceEq, Int.reduceLT, Int.reduceLE, Int.reduceToNat, Int.reduceAdd, Int.reduceSub, Int.reduceNeg, UInt8.reduceToNat]
  · have h4' : q < ns.length := by omega
    refine e_callO E' [.d (i64 q), .d (.ptr (.agg [.sl (some 4) (ns.map nodeD), i64 root])), .bx [3] 0, .bx [4] 0] (cO ns root C) [3, 9, 4] (f29_ok ns root hN hfl hk (ns.length + 1) C q (by have := whites_le_len C; rw [hC.len] at this; omega) hC h4' (fun j hj => absurd hj (hg j))) rfl rfl ⟨by simp only [go_sem, Nat.reduceEqDiff, Nat.reduceLT, ↓reduceIte, Nat.reduceAdd, Nat.reduceMul, Nat.reduceLeDiff, Nat.reduceSub, Nat.reduceBEq, Int.reduceEq, Int.reduceLT, Int.reduceLE, Int.reduceToNat, Int.reduceAdd, Int.reduceSub, Int.reduceNeg, UInt8.reduceToNat], by rw [mk_used]; decide⟩ rfl (by unfold cO; simp only [go_sem, Nat.reduceEqDiff, Nat.reduceLT, ↓reduceIte, Nat.reduceAdd, Nat.reduceMul, Nat.reduceLeDiff, Nat.reduceSub, Nat.reduceBEq, Int.reduceEq, Int.reduceLT, Int.reduceLE, Int.reduceToNat, Int.reduceAdd, Int.reduceSub, Int.reduceNeg, UInt8.reduceToNat]) (by unfold cO; simp only [go_sem, Nat.reduceEqDiff, Nat.reduceLT, ↓reduceIte, Nat.reduceAdd, Nat.reduceMul, Nat.reduceLeDiff, Nat.reduceSub, Nat.reduceBEq, Int.reduceEq, Int.reduceLT, Int.reduceLE, Int.reduceToNat, Int.reduceAdd, Int.reduceSub, Int.reduceNeg, UInt8.reduceToNat]) ?_
    rintro _ _ ⟨b, C2, rfl, rfl, hl2, hpt, hpf⟩
    unfold cO
    simp only [go_sem, Nat.reduceEqDiff, Nat.reduceLT, ↓reduceIte, Nat.reduceAdd, Nat.reduceMul, Nat.reduceLeDiff, Nat.reduceSub, Nat.reduceBEq, Int.reduceEq, Int.reduceLT, Int.reduceLE, Int.reduceToNat, Int.reduceAdd, Int.reduceSub, Int.reduceNeg, UInt8.reduceToNat]
    refine ⟨by simp [hl2, hC.len], ?_⟩
    refine e_if E' (fun h5 => ?_) (fun h5 => ?_) <;> simp only [go_sem, Nat.reduceEqDiff, Nat.reduceLT, ↓reduceIte, Nat.reduceAdd, Nat.reduceMul, Nat.reduceLeDiff, Nat.reduceSub, Nat.reduceBEq, Int.reduceEq, Int.reduceLT, Int.reduceLE, Int.reduceToNat, Int.reduceAdd, Int.reduceSub, Int.reduceNeg, UInt8.reduceToNat]
    · have hb : b = false := by simpa using h5
      obtain ⟨j, hj1, hj2⟩ := hpf hb
      rw [endsB_false fun h => (h j hj2).no hj1]
    · have hb : b = true := by simpa using h5
      obtain ⟨g1, g2, g3, g4⟩ := hpt hb
      refine ⟨⟨(q + 1, C2), by show q + 1 ≤ _; omega, g1, fun j hj => hg j ((g3 j).1 hj), fun k hk => ?_⟩, by show ns.length - (q + 1) < _; omega, ?_⟩
      · simp only at hk
        by_cases e : k = q
        · rw [e]; exact g2
        · exact he k (by omega)
      · unfold cO
        simp only [go_sem, Nat.reduceEqDiff, Nat.reduceLT, ↓reduceIte, Nat.reduceAdd, Nat.reduceMul, Nat.reduceLeDiff, Nat.reduceSub, Nat.reduceBEq, Int.reduceEq, Int.reduceLT, Int.reduceLE, Int.reduceToNat, Int.reduceAdd, Int.reduceSub, Int.reduceNeg, UInt8.reduceToNat]
        rw [w64_in ⟨by omega, by omega⟩]; rfl
  · rw [endsB_true fun k hk => he k (by omega)]
end Go.Proofs.YtjoneaifakonjaaDoor
