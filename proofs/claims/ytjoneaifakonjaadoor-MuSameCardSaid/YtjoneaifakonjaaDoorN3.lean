/-
  Names and tags: both answers; the law NameTells's own part.
-/
import Derived.Test.YtjoneaifakonjaaDoorN2
set_option linter.all false
namespace Go.Proofs.YtjoneaifakonjaaDoor
open Go.Ab
variable {t : TypeId} {fz : Nat × Nat}
theorem f44_ok {G} (s : List UInt8) (hl : s.length ≤ 9223372036854775807) : HP Tryd.prog G 44 [.str s] (fun r => r = .d (.bool (wholeB s))) := by
  refine funP_ok Tryd.func44 rfl (by decide +kernel) (by simp [Tryd.ntmps44]) (veil fun E => ?_)
  simp only [go_sem, Nat.reduceEqDiff, Nat.reduceLT, ↓reduceIte, Nat.reduceAdd, Nat.reduceMul, Nat.reduceLeDiff, Nat.reduceSub, Nat.reduceBEq, Int.reduceEq, Int.reduceLT, Int.reduceLE, Int.reduceToNat, Int.reduceAdd, Int.reduceSub, Int.reduceNeg, UInt8.reduceToNat]
  refine e_gif E (fun h0 => ?_) (fun h0 => ?_) <;> simp only [go_sem, Nat.reduceEqDiff, Nat.reduceLT, ↓reduceIte, Nat.reduceAdd, Nat.reduceMul, Nat.reduceLeDiff, Nat.reduceSub, Nat.reduceBEq, Int.reduceEq, Int.reduceLT, Int.reduceLE, Int.reduceToNat, Int.reduceAdd, Int.reduceSub, Int.reduceNeg, UInt8.reduceToNat]
  · refine e_gifd E (fun h1 => ?_) (fun h1 => ?_) <;> simp only [go_sem, Nat.reduceEqDiff, Nat.reduceLT, ↓reduceIte, Nat.reduceAdd, Nat.reduceMul, Nat.reduceLeDiff, Nat.reduceSub, Nat.reduceBEq, Int.reduceEq, Int.reduceLT, Int.reduceLE, Int.reduceToNat, Int.reduceAdd, Int.reduceSub, Int.reduceNeg, UInt8.reduceToNat]
    · refine e_call E (f49_ok s hl) rfl rfl (by simp) ?_
      rintro _ rfl
      simp only [go_sem, Nat.reduceEqDiff, Nat.reduceLT, ↓reduceIte, Nat.reduceAdd, Nat.reduceMul, Nat.reduceLeDiff, Nat.reduceSub, Nat.reduceBEq, Int.reduceEq, Int.reduceLT, Int.reduceLE, Int.reduceToNat, Int.reduceAdd, Int.reduceSub, Int.reduceNeg, UInt8.reduceToNat]
      have h0 : s.isEmpty = false := by simpa using h0
      simp only [wholeB, h0, i64_nat]
      rw [decide_eq_true (p := s.length ≤ 20) (by omega)]
      rfl
    · have : ¬ s.length ≤ 20 := by omega
      simp only [wholeB]
      rw [decide_eq_false this, Bool.and_false, Bool.false_and]
  · have h0 : s.isEmpty = true := by simpa using h0
    simp only [wholeB, h0]
    rfl
theorem whole_ne {s : List UInt8} (h : wholeB s = true) : 1 ≤ s.length := by
  cases s with
  | nil => simp [wholeB] at h
  | cons c r => simp
theorem f39_ok {G} (s : List UInt8) (hl : s.length ≤ 9223372036854775807) : HP Tryd.prog G 39 [.str s] (fun r => r = .d (.bool (nameB s))) := by
  refine funP_ok Tryd.func39 rfl (by decide +kernel) (by simp [Tryd.ntmps39]) (veil fun E => ?_)
  simp only [go_sem, Nat.reduceEqDiff, Nat.reduceLT, ↓reduceIte, Nat.reduceAdd, Nat.reduceMul, Nat.reduceLeDiff, Nat.reduceSub, Nat.reduceBEq, Int.reduceEq, Int.reduceLT, Int.reduceLE, Int.reduceToNat, Int.reduceAdd, Int.reduceSub, Int.reduceNeg, UInt8.reduceToNat]
  refine e_call E (f44_ok s hl) rfl rfl (by simp) ?_
  rintro _ rfl
  simp only [go_sem, Nat.reduceEqDiff, Nat.reduceLT, ↓reduceIte, Nat.reduceAdd, Nat.reduceMul, Nat.reduceLeDiff, Nat.reduceSub, Nat.reduceBEq, Int.reduceEq, Int.reduceLT, Int.reduceLE, Int.reduceToNat, Int.reduceAdd, Int.reduceSub, Int.reduceNeg, UInt8.reduceToNat]
  refine e_gif E (fun h1 => ?_) (fun h1 => ?_) <;> simp only [go_sem, Nat.reduceEqDiff, Nat.reduceLT, ↓reduceIte, Nat.reduceAdd, Nat.reduceMul, Nat.reduceLeDiff, Nat.reduceSub, Nat.reduceBEq, Int.reduceEq, Int.reduceLT, Int.reduceLE, Int.reduceToNat, Int.reduceAdd, Int.reduceSub, Int.reduceNeg, UInt8.reduceToNat]
  · have := whole_ne h1
    refine ⟨by omega, ?_⟩
    refine e_call E (f45_ok (s.getD 0 0)) rfl rfl (by simp) ?_
    rintro _ rfl
    simp only [go_sem, Nat.reduceEqDiff, Nat.reduceLT, ↓reduceIte, Nat.reduceAdd, Nat.reduceMul, Nat.reduceLeDiff, Nat.reduceSub, Nat.reduceBEq, Int.reduceEq, Int.reduceLT, Int.reduceLE, Int.reduceToNat, Int.reduceAdd, Int.reduceSub, Int.reduceNeg, UInt8.reduceToNat]
    refine e_gif E (fun h2 => ?_) (fun h2 => ?_) <;> simp only [go_sem, Nat.reduceEqDiff, Nat.reduceLT, ↓reduceIte, Nat.reduceAdd, Nat.reduceMul, Nat.reduceLeDiff, Nat.reduceSub, Nat.reduceBEq, Int.reduceEq, Int.reduceLT, Int.reduceLE, Int.reduceToNat, Int.reduceAdd, Int.reduceSub, Int.reduceNeg, UInt8.reduceToNat]
    · refine e_call E (f46_ok s) rfl rfl (by simp) ?_
      rintro _ rfl
      simp only [go_sem, Nat.reduceEqDiff, Nat.reduceLT, ↓reduceIte, Nat.reduceAdd, Nat.reduceMul, Nat.reduceLeDiff, Nat.reduceSub, Nat.reduceBEq, Int.reduceEq, Int.reduceLT, Int.reduceLE, Int.reduceToNat, Int.reduceAdd, Int.reduceSub, Int.reduceNeg, UInt8.reduceToNat]
      simp only [nameB, h1, h2, Bool.true_and]
    · simp only [nameB, h1, h2, Bool.true_and, Bool.false_and]
  · simp only [nameB, h1, Bool.false_and]
theorem f40_ok {G} (s : List UInt8) (hl : s.length ≤ 9223372036854775807) : HP Tryd.prog G 40 [.str s] (fun r => r = .d (.bool (tagB s))) := by
  refine funP_ok Tryd.func40 rfl (by decide +kernel) (by simp [Tryd.ntmps40]) (veil fun E => ?_)
  simp only [go_sem, Nat.reduceEqDiff, Nat.reduceLT, ↓reduceIte, Nat.reduceAdd, Nat.reduceMul, Nat.reduceLeDiff, Nat.reduceSub, Nat.reduceBEq, Int.reduceEq, Int.reduceLT, Int.reduceLE, Int.reduceToNat, Int.reduceAdd, Int.reduceSub, Int.reduceNeg, UInt8.reduceToNat]
  refine e_call E (f44_ok s hl) rfl rfl (by simp) ?_
  rintro _ rfl
  simp only [go_sem, Nat.reduceEqDiff, Nat.reduceLT, ↓reduceIte, Nat.reduceAdd, Nat.reduceMul, Nat.reduceLeDiff, Nat.reduceSub, Nat.reduceBEq, Int.reduceEq, Int.reduceLT, Int.reduceLE, Int.reduceToNat, Int.reduceAdd, Int.reduceSub, Int.reduceNeg, UInt8.reduceToNat]
  refine e_gif E (fun h1 => ?_) (fun h1 => ?_) <;> simp only [go_sem, Nat.reduceEqDiff, Nat.reduceLT, ↓reduceIte, Nat.reduceAdd, Nat.reduceMul, Nat.reduceLeDiff, Nat.reduceSub, Nat.reduceBEq, Int.reduceEq, Int.reduceLT, Int.reduceLE, Int.reduceToNat, Int.reduceAdd, Int.reduceSub, Int.reduceNeg, UInt8.reduceToNat]
  · have := whole_ne h1
    refine ⟨by omega, ?_⟩
    refine e_call E (f47_ok (s.getD 0 0)) rfl rfl (by simp) ?_
    rintro _ rfl
    simp only [go_sem, Nat.reduceEqDiff, Nat.reduceLT, ↓reduceIte, Nat.reduceAdd, Nat.reduceMul, Nat.reduceLeDiff, Nat.reduceSub, Nat.reduceBEq, Int.reduceEq, Int.reduceLT, Int.reduceLE, Int.reduceToNat, Int.reduceAdd, Int.reduceSub, Int.reduceNeg, UInt8.reduceToNat]
    simp only [tagB, h1, Bool.true_and]
  · simp only [tagB, h1, Bool.false_and]
theorem cut_eq {α : Type} (k : Int) (hk : 0 ≤ k) (l : List α) [Decidable (k < (l.length : Int))] : List.take ((if k < (l.length : Int) then k else (l.length : Int)).toNat - 0) l = l.take k.toNat := by
  rw [Nat.sub_zero]
  split
  · rfl
  · rw [Int.toNat_natCast, List.take_length, List.take_of_length_le (by omega)]
theorem cut_map {α β : Type} (f : α → β) (k : Int) (hk : 0 ≤ k) (l : List α) [Decidable (k < (l.length : Int))] : List.take ((if k < (l.length : Int) then k else (l.length : Int)).toNat - 0) (l.map f) = (l.take k.toNat).map f := by
  rw [← List.map_take, cut_eq k hk]
theorem cut_in (k n : Int) [Decidable (k < n)] (hk : 0 ≤ k) (hn : 0 ≤ n) : (0 ≤ if k < n then k else n) ∧ (if k < n then k else n) ≤ n := by
  split <;> omega
end Go.Proofs.YtjoneaifakonjaaDoor
