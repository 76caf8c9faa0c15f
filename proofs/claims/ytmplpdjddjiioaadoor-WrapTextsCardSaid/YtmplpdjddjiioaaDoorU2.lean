/-
  What cuts a prefix off; numbers as text; the law WrapSums, walked.
-/
import Derived.Test.YtmplpdjddjiioaaDoorU1
import Derived.Lib.ItoaLen
set_option linter.all false
namespace Go.Proofs.YtmplpdjddjiioaaDoor
open Go.Ab
variable {t : TypeId} {fz : Nat × Nat}
def hasPre (s p : List UInt8) : Bool := decide (p.length ≤ s.length) && (s.take p.length == p)
theorem f76_ok {G} (s p : List UInt8) : HP Tryd.prog G 76 [.str s, .str p] (fun r => r = .d (.bool (hasPre s p))) := by
  refine funP_ok Tryd.func76 rfl (by decide +kernel) (by simp [Tryd.ntmps76]) (veil fun E => ?_)
  simp only [go_sem, Nat.reduceEqDiff, Nat.reduceLT, ↓reduceIte, Nat.reduceAdd, Nat.reduceMul, Nat.reduceLeDiff, Nat.reduceSub, Nat.reduceBEq, Int.reduceEq, Int.reduceLT, Int.reduceLE, Int.reduceToNat, Int.reduceAdd, Int.reduceSub, Int.reduceNeg, UInt8.reduceToNat]
  refine e_gifd E (fun h => ?_) (fun h => ?_) <;> simp only [go_sem, Nat.reduceEqDiff, Nat.reduceLT, ↓reduceIte, Nat.reduceAdd, Nat.reduceMul, Nat.reduceLeDiff, Nat.reduceSub, Nat.reduceBEq, Int.reduceEq, Int.reduceLT, Int.reduceLE, Int.reduceToNat, Int.reduceAdd, Int.reduceSub, Int.reduceNeg, UInt8.reduceToNat]
  · have hl : p.length ≤ s.length := by simpa using h
    refine ⟨by simpa using hl, ?_⟩
    simp [hasPre, hl, beq_l]
  · have hl : ¬ p.length ≤ s.length := by simpa using h
    simp [hasPre, hl]
theorem hasPre_le {s p : List UInt8} (h : hasPre s p = true) : p.length ≤ s.length := by
  simp only [hasPre, Bool.and_eq_true, decide_eq_true_eq] at h
  exact h.1
theorem f63_ok {G} (s p : List UInt8) : HP Tryd.prog G 63 [.str s, .str p] (fun r => r = .tup [.d (.str (if hasPre s p then s.drop p.length else s)), .d (.bool (hasPre s p))]) := by
  refine funP_ok Tryd.func63 rfl (by decide +kernel) (by simp [Tryd.ntmps63]) (veil fun E => ?_)
  simp only [go_sem, Nat.reduceEqDiff, Nat.reduceLT, ↓reduceIte, Nat.reduceAdd, Nat.reduceMul, Nat.reduceLeDiff, Nat.reduceSub, Nat.reduceBEq, Int.reduceEq, Int.reduceLT, Int.reduceLE, Int.reduceToNat, Int.reduceAdd, Int.reduceSub, Int.reduceNeg, UInt8.reduceToNat]
  refine e_call E (f76_ok s p) rfl rfl (by simp) ?_
  rintro _ rfl
  simp only [go_sem, Nat.reduceEqDiff, Nat.reduceLT, ↓reduceIte, Nat.reduceAdd, Nat.reduceMul, Nat.reduceLeDiff, Nat.reduceSub, Nat.reduceBEq, Int.reduceEq, Int.reduceLT, Int.reduceLE, Int.reduceToNat, Int.reduceAdd, Int.reduceSub, Int.reduceNeg, UInt8.reduceToNat]
  refine e_if E (fun h => ?_) (fun h => ?_) <;> simp only [go_sem, Nat.reduceEqDiff, Nat.reduceLT, ↓reduceIte, Nat.reduceAdd, Nat.reduceMul, Nat.reduceLeDiff, Nat.reduceSub, Nat.reduceBEq, Int.reduceEq, Int.reduceLT, Int.reduceLE, Int.reduceToNat, Int.reduceAdd, Int.reduceSub, Int.reduceNeg, UInt8.reduceToNat]
  · have h : hasPre s p = false := by simpa using h
    simp [h]
  · have h : hasPre s p = true := by simpa using h
    have := hasPre_le h
    simp [h]
    refine ⟨by omega, ?_⟩
    rw [List.take_of_length_le]
    simp
theorem f55_ok {G} (s p : List UInt8) : HP Tryd.prog G 55 [.str s, .str p] (fun r => r = .tup [.d (.str (if hasPre s p then s.drop p.length else s)), .d (.bool (hasPre s p))]) := by
  refine funP_ok Tryd.func55 rfl (by decide +kernel) (by simp [Tryd.ntmps55]) (veil fun E => ?_)
  simp only [go_sem, Nat.reduceEqDiff, Nat.reduceLT, ↓reduceIte, Nat.reduceAdd, Nat.reduceMul, Nat.reduceLeDiff, Nat.reduceSub, Nat.reduceBEq, Int.reduceEq, Int.reduceLT, Int.reduceLE, Int.reduceToNat, Int.reduceAdd, Int.reduceSub, Int.reduceNeg, UInt8.reduceToNat]
  refine e_call E (f63_ok s p) rfl rfl (by simp) ?_
  rintro _ rfl
  simp only [go_sem, Nat.reduceEqDiff, Nat.reduceLT, ↓reduceIte, Nat.reduceAdd, Nat.reduceMul, Nat.reduceLeDiff, Nat.reduceSub, Nat.reduceBEq, Int.reduceEq, Int.reduceLT, Int.reduceLE, Int.reduceToNat, Int.reduceAdd, Int.reduceSub, Int.reduceNeg, UInt8.reduceToNat]
/-- A number's text, by the program. -/
def printZ (n : Int) : List UInt8 := if n < 0 then 126 :: Lib.decDigits n.natAbs else Lib.decDigits n.toNat
theorem dec_head (u : Nat) : ∃ c r, Lib.decDigits u = c :: r ∧ 48 ≤ c.toNat ∧ c.toNat ≤ 57 := by
  induction u using Nat.strongRecOn with
  | ind u ih =>
    rw [Lib.decDigits]
    split
    · rename_i h
      exact ⟨_, [], rfl, by rw [UInt8.toNat_ofNat']; omega, by rw [UInt8.toNat_ofNat']; omega⟩
    · obtain ⟨c, r, h1, h2, h3⟩ := ih (u / 10) (by omega)
      exact ⟨c, r ++ [UInt8.ofNat (48 + u % 10)], by rw [h1]; rfl, h2, h3⟩
theorem dec_not45 (u : Nat) : hasPre (Lib.decDigits u) [45] = false := by
  obtain ⟨c, r, h1, h2, h3⟩ := dec_head u
  rw [h1]
  simp [hasPre]
  rintro rfl
  revert h2; decide
theorem f37_ok (n : Int) (hn : inR n) : HP Tryd.prog (GT t fz) 37 [i64 n] (fun r => r = .d (.str (printZ n))) := by
  refine funP_ok Tryd.func37 rfl (by decide +kernel) (by simp [Tryd.ntmps37]) (veil fun E => ?_)
  have hl := Lib.itoa_length_le n hn.1 hn.2
  simp only [go_sem, Nat.reduceEqDiff, Nat.reduceLT, ↓reduceIte, Nat.reduceAdd, Nat.reduceMul, Nat.reduceLeDiff, Nat.reduceSub, Nat.reduceBEq, Int.reduceEq, Int.reduceLT, Int.reduceLE, Int.reduceToNat, Int.reduceAdd, Int.reduceSub, Int.reduceNeg, UInt8.reduceToNat]
  refine e_call E (f57_ok n hn) rfl rfl (by simp) ?_
  rintro _ rfl
  simp only [go_sem, Nat.reduceEqDiff, Nat.reduceLT, ↓reduceIte, Nat.reduceAdd, Nat.reduceMul, Nat.reduceLeDiff, Nat.reduceSub, Nat.reduceBEq, Int.reduceEq, Int.reduceLT, Int.reduceLE, Int.reduceToNat, Int.reduceAdd, Int.reduceSub, Int.reduceNeg, UInt8.reduceToNat]
  refine e_call E (f55_ok (Lib.itoa n) [45]) rfl rfl (by simp) ?_
  rintro _ rfl
  simp only [go_sem, Nat.reduceEqDiff, Nat.reduceLT, ↓reduceIte, Nat.reduceAdd, Nat.reduceMul, Nat.reduceLeDiff, Nat.reduceSub, Nat.reduceBEq, Int.reduceEq, Int.reduceLT, Int.reduceLE, Int.reduceToNat, Int.reduceAdd, Int.reduceSub, Int.reduceNeg, UInt8.reduceToNat]
  by_cases h : n < 0
  · have e : Lib.itoa n = 45 :: Lib.decDigits n.natAbs := by simp [Lib.itoa, h]
    rw [e, show hasPre (45 :: Lib.decDigits n.natAbs) [45] = true by simp [hasPre]]
    rw [e] at hl
    simp only [List.length_cons] at hl
    simp only [go_sem, Nat.reduceEqDiff, Nat.reduceLT, ↓reduceIte, Nat.reduceAdd, Nat.reduceMul, Nat.reduceLeDiff, Nat.reduceSub, Nat.reduceBEq, Int.reduceEq, Int.reduceLT, Int.reduceLE, Int.reduceToNat, Int.reduceAdd, Int.reduceSub, Int.reduceNeg, UInt8.reduceToNat]
    simp only [printZ, h, if_true, List.drop_succ_cons, List.drop_zero]
    exact ⟨by omega, rfl⟩
  · have e : Lib.itoa n = Lib.decDigits n.toNat := by simp [Lib.itoa, h]
    rw [e, dec_not45]
    simp only [go_sem, Nat.reduceEqDiff, Nat.reduceLT, ↓reduceIte, Nat.reduceAdd, Nat.reduceMul, Nat.reduceLeDiff, Nat.reduceSub, Nat.reduceBEq, Int.reduceEq, Int.reduceLT, Int.reduceLE, Int.reduceToNat, Int.reduceAdd, Int.reduceSub, Int.reduceNeg, UInt8.reduceToNat]
    simp [printZ, h]
end Go.Proofs.YtmplpdjddjiioaaDoor
