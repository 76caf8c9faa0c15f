/-
  The layer 01: the program's wrap and its answer, walked.
-/
import Derived.Test.YtmplpdjddjiioaaDoorS1
set_option linter.all false
namespace Go.Proofs.YtmplpdjddjiioaaDoor
open Go.Ab
theorem f13_ok {G} (a b : Int) : HP Tryd.prog G 13 [i64 a, i64 b] (fun r => r = .d (i64 (w64 (a + b)))) := by
  refine funP_ok Tryd.func13 rfl (by decide +kernel) (by simp [Tryd.ntmps13]) (veil fun E => ?_)
  simp only [go_sem, Nat.reduceEqDiff, Nat.reduceLT, ↓reduceIte, Nat.reduceAdd, Nat.reduceMul, Nat.reduceLeDiff, Nat.reduceSub, Nat.reduceBEq, Int.reduceEq, Int.reduceLT, Int.reduceLE, Int.reduceToNat, Int.reduceAdd, Int.reduceSub, Int.reduceNeg, UInt8.reduceToNat]
theorem f14_ok {G} (a b : Int) : HP Tryd.prog G 14 [i64 a, i64 b] (fun r => r = .d (i64 (w64 (a - b)))) := by
  refine funP_ok Tryd.func14 rfl (by decide +kernel) (by simp [Tryd.ntmps14]) (veil fun E => ?_)
  simp only [go_sem, Nat.reduceEqDiff, Nat.reduceLT, ↓reduceIte, Nat.reduceAdd, Nat.reduceMul, Nat.reduceLeDiff, Nat.reduceSub, Nat.reduceBEq, Int.reduceEq, Int.reduceLT, Int.reduceLE, Int.reduceToNat, Int.reduceAdd, Int.reduceSub, Int.reduceNeg, UInt8.reduceToNat]
theorem f15_ok {G} (a b : Int) : HP Tryd.prog G 15 [i64 a, i64 b] (fun r => r = .d (i64 (w64 (a * b)))) := by
  refine funP_ok Tryd.func15 rfl (by decide +kernel) (by simp [Tryd.ntmps15]) (veil fun E => ?_)
  simp only [go_sem, Nat.reduceEqDiff, Nat.reduceLT, ↓reduceIte, Nat.reduceAdd, Nat.reduceMul, Nat.reduceLeDiff, Nat.reduceSub, Nat.reduceBEq, Int.reduceEq, Int.reduceLT, Int.reduceLE, Int.reduceToNat, Int.reduceAdd, Int.reduceSub, Int.reduceNeg, UInt8.reduceToNat]
theorem f12_ok {G} (a b : Int) : HP Tryd.prog G 12 [i64 a, i64 b] (fun r => r = .tup [.d (i64 (divZ a b)), .d (i64 (divE b))]) := by
  refine funP_ok Tryd.func12 rfl (by decide +kernel) (by simp [Tryd.ntmps12]) (veil fun E => ?_)
  simp only [go_sem, Nat.reduceEqDiff, Nat.reduceLT, ↓reduceIte, Nat.reduceAdd, Nat.reduceMul, Nat.reduceLeDiff, Nat.reduceSub, Nat.reduceBEq, Int.reduceEq, Int.reduceLT, Int.reduceLE, Int.reduceToNat, Int.reduceAdd, Int.reduceSub, Int.reduceNeg, UInt8.reduceToNat]
  refine e_ifd E (fun h => ?_) (fun h => ?_) <;> simp only [go_sem, Nat.reduceEqDiff, Nat.reduceLT, ↓reduceIte, Nat.reduceAdd, Nat.reduceMul, Nat.reduceLeDiff, Nat.reduceSub, Nat.reduceBEq, Int.reduceEq, Int.reduceLT, Int.reduceLE, Int.reduceToNat, Int.reduceAdd, Int.reduceSub, Int.reduceNeg, UInt8.reduceToNat]
  · simp [divZ, divE, h]
  · simp [divZ, divE, h]
theorem f43_ok {G} (b : Bool) : HP Tryd.prog G 43 [.bool b] (fun r => r = .d (i64 (if b then 1 else 0))) := by
  refine funP_ok Tryd.func43 rfl (by decide +kernel) (by simp [Tryd.ntmps43]) (veil fun E => ?_)
  cases b <;> simp only [go_sem, Nat.reduceEqDiff, Nat.reduceLT, ↓reduceIte, Nat.reduceAdd, Nat.reduceMul, Nat.reduceLeDiff, Nat.reduceSub, Nat.reduceBEq, Int.reduceEq, Int.reduceLT, Int.reduceLE, Int.reduceToNat, Int.reduceAdd, Int.reduceSub, Int.reduceNeg, UInt8.reduceToNat]
theorem f11_sum {G} (a b : Int) : HP Tryd.prog G 11 [i64 1, i64 a, i64 b] (fun r => r = .tup [.d (i64 (w64 (a + b))), .d (i64 0)]) := by
  refine funP_ok Tryd.func11 rfl (by decide +kernel) (by simp [Tryd.ntmps11]) (veil fun E => ?_)
  simp only [go_sem, Nat.reduceEqDiff, Nat.reduceLT, ↓reduceIte, Nat.reduceAdd, Nat.reduceMul, Nat.reduceLeDiff, Nat.reduceSub, Nat.reduceBEq, Int.reduceEq, Int.reduceLT, Int.reduceLE, Int.reduceToNat, Int.reduceAdd, Int.reduceSub, Int.reduceNeg, UInt8.reduceToNat]
  simp [w_u_add]
theorem f11_dif {G} (a b : Int) : HP Tryd.prog G 11 [i64 2, i64 a, i64 b] (fun r => r = .tup [.d (i64 (w64 (a - b))), .d (i64 0)]) := by
  refine funP_ok Tryd.func11 rfl (by decide +kernel) (by simp [Tryd.ntmps11]) (veil fun E => ?_)
  simp only [go_sem, Nat.reduceEqDiff, Nat.reduceLT, ↓reduceIte, Nat.reduceAdd, Nat.reduceMul, Nat.reduceLeDiff, Nat.reduceSub, Nat.reduceBEq, Int.reduceEq, Int.reduceLT, Int.reduceLE, Int.reduceToNat, Int.reduceAdd, Int.reduceSub, Int.reduceNeg, UInt8.reduceToNat]
  simp [w_u_sub]
theorem f11_prod {G} (a b : Int) : HP Tryd.prog G 11 [i64 3, i64 a, i64 b] (fun r => r = .tup [.d (i64 (w64 (a * b))), .d (i64 0)]) := by
  refine funP_ok Tryd.func11 rfl (by decide +kernel) (by simp [Tryd.ntmps11]) (veil fun E => ?_)
  simp only [go_sem, Nat.reduceEqDiff, Nat.reduceLT, ↓reduceIte, Nat.reduceAdd, Nat.reduceMul, Nat.reduceLeDiff, Nat.reduceSub, Nat.reduceBEq, Int.reduceEq, Int.reduceLT, Int.reduceLE, Int.reduceToNat, Int.reduceAdd, Int.reduceSub, Int.reduceNeg, UInt8.reduceToNat]
  simp [w_u_mul]
theorem f11_quo {G} (a b : Int) (ha : inR a) (hb : inR b) : HP Tryd.prog G 11 [i64 4, i64 a, i64 b] (fun r => r = .tup [.d (i64 (divZ a b)), .d (i64 (divE b))]) := by
  refine funP_ok Tryd.func11 rfl (by decide +kernel) (by simp [Tryd.ntmps11]) (veil fun E => ?_)
  simp only [go_sem, Nat.reduceEqDiff, Nat.reduceLT, ↓reduceIte, Nat.reduceAdd, Nat.reduceMul, Nat.reduceLeDiff, Nat.reduceSub, Nat.reduceBEq, Int.reduceEq, Int.reduceLT, Int.reduceLE, Int.reduceToNat, Int.reduceAdd, Int.reduceSub, Int.reduceNeg, UInt8.reduceToNat]
  refine e_ifd E (fun h0 => ?_) (fun h0 => ?_) <;> simp only [go_sem, Nat.reduceEqDiff, Nat.reduceLT, ↓reduceIte, Nat.reduceAdd, Nat.reduceMul, Nat.reduceLeDiff, Nat.reduceSub, Nat.reduceBEq, Int.reduceEq, Int.reduceLT, Int.reduceLE, Int.reduceToNat, Int.reduceAdd, Int.reduceSub, Int.reduceNeg, UInt8.reduceToNat]
  · simp [divZ, divE, h0]
  · refine e_ifd E (fun h1 => ?_) (fun h1 => ?_) <;> simp only [go_sem, Nat.reduceEqDiff, Nat.reduceLT, ↓reduceIte, Nat.reduceAdd, Nat.reduceMul, Nat.reduceLeDiff, Nat.reduceSub, Nat.reduceBEq, Int.reduceEq, Int.reduceLT, Int.reduceLE, Int.reduceToNat, Int.reduceAdd, Int.reduceSub, Int.reduceNeg, UInt8.reduceToNat] <;> refine e_ifd E (fun h2 => ?_) (fun h2 => ?_) <;> simp only [go_sem, Nat.reduceEqDiff, Nat.reduceLT, ↓reduceIte, Nat.reduceAdd, Nat.reduceMul, Nat.reduceLeDiff, Nat.reduceSub, Nat.reduceBEq, Int.reduceEq, Int.reduceLT, Int.reduceLE, Int.reduceToNat, Int.reduceAdd, Int.reduceSub, Int.reduceNeg, UInt8.reduceToNat]
    all_goals simp only [h1, h2, decide_true, decide_false]
    all_goals simp only [go_sem, Nat.reduceEqDiff, Nat.reduceLT, ↓reduceIte, Nat.reduceAdd, Nat.reduceMul, Nat.reduceLeDiff, Nat.reduceSub, Nat.reduceBEq, Int.reduceEq, Int.reduceLT, Int.reduceLE, Int.reduceToNat, Int.reduceAdd, Int.reduceSub, Int.reduceNeg, UInt8.reduceToNat]
    all_goals simp only [divZ, divE, if_neg h0]
    · rw [u64_neg ha h1, u64_neg hb h2, w_u, Int.neg_tdiv_neg]
      exact ⟨by omega, by simp⟩
    · rw [u64_neg ha h1, u64_nonneg hb h2, w_u_neg, Int.neg_tdiv, Int.neg_neg]
      exact ⟨by omega, by simp⟩
    · rw [u64_nonneg ha h1, u64_neg hb h2, w_u_neg, Int.tdiv_neg, Int.neg_neg]
      exact ⟨by omega, by simp⟩
    · rw [u64_nonneg ha h1, u64_nonneg hb h2, w_u]
      exact ⟨by omega, by simp⟩
end Go.Proofs.YtmplpdjddjiioaaDoor
