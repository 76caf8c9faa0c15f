/-
  Names and tags: both answers; the law NameTells's own part.
-/
import Derived.Test.YtmplpdjddjiioaaDoorN2
set_option linter.all false
namespace Go.Proofs.YtmplpdjddjiioaaDoor
open Go.Ab
variable {t : TypeId} {fz : Nat × Nat}
theorem f51_ok {G} (s : List UInt8) (hl : s.length ≤ 9223372036854775807) : HP Tryd.prog G 51 [.str s] (fun r => r = .d (.bool (wholeB s))) := by
  refine funP_ok Tryd.func51 rfl (by decide +kernel) (by simp [Tryd.ntmps51]) (veil fun E => ?_)
  simp only [go_sem, Nat.reduceEqDiff, Nat.reduceLT, ↓reduceIte, Nat.reduceAdd, Nat.reduceMul, Nat.reduceLeDiff, Nat.reduceSub, Nat.reduceBEq, Int.reduceEq, Int.reduceLT, Int.reduceLE, Int.reduceToNat, Int.reduceAdd, Int.reduceSub, Int.reduceNeg, UInt8.reduceToNat]
  refine e_gif E (fun h0 => ?_) (fun h0 => ?_) <;> simp only [go_sem, Nat.reduceEqDiff, Nat.reduceLT, ↓reduceIte, Nat.reduceAdd, Nat.reduceMul, Nat.reduceLeDiff, Nat.reduceSub, Nat.reduceBEq, Int.reduceEq, Int.reduceLT, Int.reduceLE, Int.reduceToNat, Int.reduceAdd, Int.reduceSub, Int.reduceNeg, UInt8.reduceToNat]
  · refine e_gifd E (fun h1 => ?_) (fun h1 => ?_) <;> simp only [go_sem, Nat.reduceEqDiff, Nat.reduceLT, ↓reduceIte, Nat.reduceAdd, Nat.reduceMul, Nat.reduceLeDiff, Nat.reduceSub, Nat.reduceBEq, Int.reduceEq, Int.reduceLT, Int.reduceLE, Int.reduceToNat, Int.reduceAdd, Int.reduceSub, Int.reduceNeg, UInt8.reduceToNat]
    · refine e_call E (f17_ok s hl) rfl rfl (by simp) ?_
      rintro _ rfl
      simp only [go_sem, Nat.reduceEqDiff, Nat.reduceLT, ↓reduceIte, Nat.reduceAdd, Nat.reduceMul, Nat.reduceLeDiff, Nat.reduceSub, Nat.reduceBEq, Int.reduceEq, Int.reduceLT, Int.reduceLE, Int.reduceToNat, Int.reduceAdd, Int.reduceSub, Int.reduceNeg, UInt8.reduceToNat]
      have h0 : s.isEmpty = false := by simpa using h0
      simp only [wholeB, h0, i64_nat]
      rw [decide_eq_true (p := s.length ≤ 20) (by omega)]
      rfl
    · have : ¬ s.length ≤ 20 := by omega
      simp only [wholeB]
      rw [decide_eq_false this, Bool.and_false, Bool.false_and]
  · have h0 : s.isEmpty = true := by simpa using h0
    simp only [wholeB, h0]
    rfl
theorem whole_ne {s : List UInt8} (h : wholeB s = true) : 1 ≤ s.length := by
  cases s with
  | nil => simp [wholeB] at h
  | cons c r => simp
theorem f21_ok {G} (s : List UInt8) (hl : s.length ≤ 9223372036854775807) : HP Tryd.prog G 21 [.str s] (fun r => r = .d (.bool (nameB s))) := by
  refine funP_ok Tryd.func21 rfl (by decide +kernel) (by simp [Tryd.ntmps21]) (veil fun E => ?_)
  simp only [go_sem, Nat.reduceEqDiff, Nat.reduceLT, ↓reduceIte, Nat.reduceAdd, Nat.reduceMul, Nat.reduceLeDiff, Nat.reduceSub, Nat.reduceBEq, Int.reduceEq, Int.reduceLT, Int.reduceLE, Int.reduceToNat, Int.reduceAdd, Int.reduceSub, Int.reduceNeg, UInt8.reduceToNat]
  refine e_call E (f51_ok s hl) rfl rfl (by simp) ?_
  rintro _ rfl
  simp only [go_sem, Nat.reduceEqDiff, Nat.reduceLT, ↓reduceIte, Nat.reduceAdd, Nat.reduceMul, Nat.reduceLeDiff, Nat.reduceSub, Nat.reduceBEq, Int.reduceEq, Int.reduceLT, Int.reduceLE, Int.reduceToNat, Int.reduceAdd, Int.reduceSub, Int.reduceNeg, UInt8.reduceToNat]
  refine e_gif E (fun h1 => ?_) (fun h1 => ?_) <;> simp only [go_sem, Nat.reduceEqDiff, Nat.reduceLT, ↓reduceIte, Nat.reduceAdd, Nat.reduceMul, Nat.reduceLeDiff, Nat.reduceSub, Nat.reduceBEq, Int.reduceEq, Int.reduceLT, Int.reduceLE, Int.reduceToNat, Int.reduceAdd, Int.reduceSub, Int.reduceNeg, UInt8.reduceToNat]
  · have := whole_ne h1
    refine ⟨by omega, ?_⟩
    refine e_call E (f44_ok (s.getD 0 0)) rfl rfl (by simp) ?_
    rintro _ rfl
    simp only [go_sem, Nat.reduceEqDiff, Nat.reduceLT, ↓reduceIte, Nat.reduceAdd, Nat.reduceMul, Nat.reduceLeDiff, Nat.reduceSub, Nat.reduceBEq, Int.reduceEq, Int.reduceLT, Int.reduceLE, Int.reduceToNat, Int.reduceAdd, Int.reduceSub, Int.reduceNeg, UInt8.reduceToNat]
    refine e_gif E (fun h2 => ?_) (fun h2 => ?_) <;> simp only [go_sem, Nat.reduceEqDiff, Nat.reduceLT, ↓reduceIte, Nat.reduceAdd, Nat.reduceMul, Nat.reduceLeDiff, Nat.reduceSub, Nat.reduceBEq, Int.reduceEq, Int.reduceLT, Int.reduceLE, Int.reduceToNat, Int.reduceAdd, Int.reduceSub, Int.reduceNeg, UInt8.reduceToNat]
    · refine e_call E (f19_ok s) rfl rfl (by simp) ?_
      rintro _ rfl
      simp only [go_sem, Nat.reduceEqDiff, Nat.reduceLT, ↓reduceIte, Nat.reduceAdd, Nat.reduceMul, Nat.reduceLeDiff, Nat.reduceSub, Nat.reduceBEq, Int.reduceEq, Int.reduceLT, Int.reduceLE, Int.reduceToNat, Int.reduceAdd, Int.reduceSub, Int.reduceNeg, UInt8.reduceToNat]
      simp only [nameB, h1, h2, Bool.true_and]
    · simp only [nameB, h1, h2, Bool.true_and, Bool.false_and]
  · simp only [nameB, h1, Bool.false_and]
theorem f23_ok {G} (s : List UInt8) (hl : s.length ≤ 9223372036854775807) : HP Tryd.prog G 23 [.str s] (fun r => r = .d (.bool (tagB s))) := by
  refine funP_ok Tryd.func23 rfl (by decide +kernel) (by simp [Tryd.ntmps23]) (veil fun E => ?_)
  simp only [go_sem, Nat.reduceEqDiff, Nat.reduceLT, ↓reduceIte, Nat.reduceAdd, Nat.reduceMul, Nat.reduceLeDiff, Nat.reduceSub, Nat.reduceBEq, Int.reduceEq, Int.reduceLT, Int.reduceLE, Int.reduceToNat, Int.reduceAdd, Int.reduceSub, Int.reduceNeg, UInt8.reduceToNat]
  refine e_call E (f51_ok s hl) rfl rfl (by simp) ?_
  rintro _ rfl
  simp only [go_sem, Nat.reduceEqDiff, Nat.reduceLT, ↓reduceIte, Nat.reduceAdd, Nat.reduceMul, Nat.reduceLeDiff, Nat.reduceSub, Nat.reduceBEq, Int.reduceEq, Int.reduceLT, Int.reduceLE, Int.reduceToNat, Int.reduceAdd, Int.reduceSub, Int.reduceNeg, UInt8.reduceToNat]
  refine e_gif E (fun h1 => ?_) (fun h1 => ?_) <;> simp only [go_sem, Nat.reduceEqDiff, Nat.reduceLT, ↓reduceIte, Nat.reduceAdd, Nat.reduceMul, Nat.reduceLeDiff, Nat.reduceSub, Nat.reduceBEq, Int.reduceEq, Int.reduceLT, Int.reduceLE, Int.reduceToNat, Int.reduceAdd, Int.reduceSub, Int.reduceNeg, UInt8.reduceToNat]
  · have := whole_ne h1
    refine ⟨by omega, ?_⟩
    refine e_call E (f45_ok (s.getD 0 0)) rfl rfl (by simp) ?_
    rintro _ rfl
    simp only [go_sem, Nat.reduceEqDiff, Nat.reduceLT, ↓reduceIte, Nat.reduceAdd, Nat.reduceMul, Nat.reduceLeDiff, Nat.reduceSub, Nat.reduceBEq, Int.reduceEq, Int.reduceLT, Int.reduceLE, Int.reduceToNat, Int.reduceAdd, Int.reduceSub, Int.reduceNeg, UInt8.reduceToNat]
    simp only [tagB, h1, Bool.true_and]
  · simp only [tagB, h1, Bool.false_and]
theorem f22_ok {G} (s : List UInt8) (hl : s.length ≤ 9223372036854775807) : HP Tryd.prog G 22 [.str s] (fun r => r = .d (.bool (nameB s))) := by
  have hw : ¬ (0 < s.length ∧ s.length ≤ 20 ∧ wordN s = s.length) → wholeB s = false := fun h => by
    cases hw : wholeB s with
    | false => rfl
    | true =>
      refine absurd ?_ h
      simp only [wholeB, Bool.and_eq_true, decide_eq_true_eq] at hw
      exact ⟨whole_ne (by simp only [wholeB, Bool.and_eq_true, decide_eq_true_eq]; exact hw), hw.1.2, hw.2⟩
  have hwy : 0 < s.length → s.length ≤ 20 → wordN s = s.length → wholeB s = true := fun h1 h2 h3 => by
    simp only [wholeB, Bool.and_eq_true, decide_eq_true_eq]
    refine ⟨⟨?_, h2⟩, h3⟩
    cases s with
    | nil => simp at h1
    | cons c r => rfl
  refine funP_ok Tryd.func22 rfl (by decide +kernel) (by simp [Tryd.ntmps22]) (veil fun E => ?_)
  simp only [go_sem, Nat.reduceEqDiff, Nat.reduceLT, ↓reduceIte, Nat.reduceAdd, Nat.reduceMul, Nat.reduceLeDiff, Nat.reduceSub, Nat.reduceBEq, Int.reduceEq, Int.reduceLT, Int.reduceLE, Int.reduceToNat, Int.reduceAdd, Int.reduceSub, Int.reduceNeg, UInt8.reduceToNat]
  refine e_gifd E (fun h1 => ?_) (fun h1 => ?_) <;> simp only [go_sem, Nat.reduceEqDiff, Nat.reduceLT, ↓reduceIte, Nat.reduceAdd, Nat.reduceMul, Nat.reduceLeDiff, Nat.reduceSub, Nat.reduceBEq, Int.reduceEq, Int.reduceLT, Int.reduceLE, Int.reduceToNat, Int.reduceAdd, Int.reduceSub, Int.reduceNeg, UInt8.reduceToNat]
  · refine e_gifd E (fun h2 => ?_) (fun h2 => ?_) <;> simp only [go_sem, Nat.reduceEqDiff, Nat.reduceLT, ↓reduceIte, Nat.reduceAdd, Nat.reduceMul, Nat.reduceLeDiff, Nat.reduceSub, Nat.reduceBEq, Int.reduceEq, Int.reduceLT, Int.reduceLE, Int.reduceToNat, Int.reduceAdd, Int.reduceSub, Int.reduceNeg, UInt8.reduceToNat]
    · refine e_call E (f18_ok s hl) rfl rfl (by simp) ?_
      rintro _ rfl
      simp only [go_sem, Nat.reduceEqDiff, Nat.reduceLT, ↓reduceIte, Nat.reduceAdd, Nat.reduceMul, Nat.reduceLeDiff, Nat.reduceSub, Nat.reduceBEq, Int.reduceEq, Int.reduceLT, Int.reduceLE, Int.reduceToNat, Int.reduceAdd, Int.reduceSub, Int.reduceNeg, UInt8.reduceToNat]
      refine e_gifd E (fun h3 => ?_) (fun h3 => ?_) <;> simp only [go_sem, Nat.reduceEqDiff, Nat.reduceLT, ↓reduceIte, Nat.reduceAdd, Nat.reduceMul, Nat.reduceLeDiff, Nat.reduceSub, Nat.reduceBEq, Int.reduceEq, Int.reduceLT, Int.reduceLE, Int.reduceToNat, Int.reduceAdd, Int.reduceSub, Int.reduceNeg, UInt8.reduceToNat]
      · have hwt := hwy (by omega) (by omega) (by omega)
        refine ⟨by omega, ?_⟩
        refine e_call E (f47_ok (s.getD 0 0)) rfl rfl (by simp) ?_
        rintro _ rfl
        simp only [go_sem, Nat.reduceEqDiff, Nat.reduceLT, ↓reduceIte, Nat.reduceAdd, Nat.reduceMul, Nat.reduceLeDiff, Nat.reduceSub, Nat.reduceBEq, Int.reduceEq, Int.reduceLT, Int.reduceLE, Int.reduceToNat, Int.reduceAdd, Int.reduceSub, Int.reduceNeg, UInt8.reduceToNat]
        refine e_gif E (fun h4 => ?_) (fun h4 => ?_) <;> simp only [go_sem, Nat.reduceEqDiff, Nat.reduceLT, ↓reduceIte, Nat.reduceAdd, Nat.reduceMul, Nat.reduceLeDiff, Nat.reduceSub, Nat.reduceBEq, Int.reduceEq, Int.reduceLT, Int.reduceLE, Int.reduceToNat, Int.reduceAdd, Int.reduceSub, Int.reduceNeg, UInt8.reduceToNat]
        · refine e_call E (f20_ok s) rfl rfl (by simp) ?_
          rintro _ rfl
          simp only [go_sem, Nat.reduceEqDiff, Nat.reduceLT, ↓reduceIte, Nat.reduceAdd, Nat.reduceMul, Nat.reduceLeDiff, Nat.reduceSub, Nat.reduceBEq, Int.reduceEq, Int.reduceLT, Int.reduceLE, Int.reduceToNat, Int.reduceAdd, Int.reduceSub, Int.reduceNeg, UInt8.reduceToNat]
          simp only [nameB, hwt, h4, Bool.true_and]
        · simp only [nameB, hwt, h4, Bool.true_and, Bool.false_and]
      · simp only [nameB, hw (by omega), Bool.false_and]
    · simp only [nameB, hw (by omega), Bool.false_and]
  · simp only [nameB, hw (by omega), Bool.false_and]
theorem f24_ok {G} (s : List UInt8) (hl : s.length ≤ 9223372036854775807) : HP Tryd.prog G 24 [.str s] (fun r => r = .d (.bool (tagB s))) := by
  have hw : ¬ (0 < s.length ∧ s.length ≤ 20 ∧ wordN s = s.length) → wholeB s = false := fun h => by
    cases hw : wholeB s with
    | false => rfl
    | true =>
      refine absurd ?_ h
      simp only [wholeB, Bool.and_eq_true, decide_eq_true_eq] at hw
      exact ⟨whole_ne (by simp only [wholeB, Bool.and_eq_true, decide_eq_true_eq]; exact hw), hw.1.2, hw.2⟩
  have hwy : 0 < s.length → s.length ≤ 20 → wordN s = s.length → wholeB s = true := fun h1 h2 h3 => by
    simp only [wholeB, Bool.and_eq_true, decide_eq_true_eq]
    refine ⟨⟨?_, h2⟩, h3⟩
    cases s with
    | nil => simp at h1
    | cons c r => rfl
  refine funP_ok Tryd.func24 rfl (by decide +kernel) (by simp [Tryd.ntmps24]) (veil fun E => ?_)
  simp only [go_sem, Nat.reduceEqDiff, Nat.reduceLT, ↓reduceIte, Nat.reduceAdd, Nat.reduceMul, Nat.reduceLeDiff, Nat.reduceSub, Nat.reduceBEq, Int.reduceEq, Int.reduceLT, Int.reduceLE, Int.reduceToNat, Int.reduceAdd, Int.reduceSub, Int.reduceNeg, UInt8.reduceToNat]
  refine e_gifd E (fun h1 => ?_) (fun h1 => ?_) <;> simp only [go_sem, Nat.reduceEqDiff, Nat.reduceLT, ↓reduceIte, Nat.reduceAdd, Nat.reduceMul, Nat.reduceLeDiff, Nat.reduceSub, Nat.reduceBEq, Int.reduceEq, Int.reduceLT, Int.reduceLE, Int.reduceToNat, Int.reduceAdd, Int.reduceSub, Int.reduceNeg, UInt8.reduceToNat]
  · refine e_gifd E (fun h2 => ?_) (fun h2 => ?_) <;> simp only [go_sem, Nat.reduceEqDiff, Nat.reduceLT, ↓reduceIte, Nat.reduceAdd, Nat.reduceMul, Nat.reduceLeDiff, Nat.reduceSub, Nat.reduceBEq, Int.reduceEq, Int.reduceLT, Int.reduceLE, Int.reduceToNat, Int.reduceAdd, Int.reduceSub, Int.reduceNeg, UInt8.reduceToNat]
    · refine e_call E (f18_ok s hl) rfl rfl (by simp) ?_
      rintro _ rfl
      simp only [go_sem, Nat.reduceEqDiff, Nat.reduceLT, ↓reduceIte, Nat.reduceAdd, Nat.reduceMul, Nat.reduceLeDiff, Nat.reduceSub, Nat.reduceBEq, Int.reduceEq, Int.reduceLT, Int.reduceLE, Int.reduceToNat, Int.reduceAdd, Int.reduceSub, Int.reduceNeg, UInt8.reduceToNat]
      refine e_gifd E (fun h3 => ?_) (fun h3 => ?_) <;> simp only [go_sem, Nat.reduceEqDiff, Nat.reduceLT, ↓reduceIte, Nat.reduceAdd, Nat.reduceMul, Nat.reduceLeDiff, Nat.reduceSub, Nat.reduceBEq, Int.reduceEq, Int.reduceLT, Int.reduceLE, Int.reduceToNat, Int.reduceAdd, Int.reduceSub, Int.reduceNeg, UInt8.reduceToNat]
      · have hwt := hwy (by omega) (by omega) (by omega)
        refine ⟨by omega, ?_⟩
        refine e_call E (f48_ok (s.getD 0 0)) rfl rfl (by simp) ?_
        rintro _ rfl
        simp only [go_sem, Nat.reduceEqDiff, Nat.reduceLT, ↓reduceIte, Nat.reduceAdd, Nat.reduceMul, Nat.reduceLeDiff, Nat.reduceSub, Nat.reduceBEq, Int.reduceEq, Int.reduceLT, Int.reduceLE, Int.reduceToNat, Int.reduceAdd, Int.reduceSub, Int.reduceNeg, UInt8.reduceToNat]
        simp only [tagB, hwt, Bool.true_and]
      · simp only [tagB, hw (by omega), Bool.false_and]
    · simp only [tagB, hw (by omega), Bool.false_and]
  · simp only [tagB, hw (by omega), Bool.false_and]
theorem cut_eq {α : Type} (k : Int) (hk : 0 ≤ k) (l : List α) [Decidable (k < (l.length : Int))] : List.take ((if k < (l.length : Int) then k else (l.length : Int)).toNat - 0) l = l.take k.toNat := by
  rw [Nat.sub_zero]
  split
  · rfl
  · rw [Int.toNat_natCast, List.take_length, List.take_of_length_le (by omega)]
theorem cut_map {α β : Type} (f : α → β) (k : Int) (hk : 0 ≤ k) (l : List α) [Decidable (k < (l.length : Int))] : List.take ((if k < (l.length : Int) then k else (l.length : Int)).toNat - 0) (l.map f) = (l.take k.toNat).map f := by
  rw [← List.map_take, cut_eq k hk]
theorem cut_in (k n : Int) [Decidable (k < n)] (hk : 0 ≤ k) (hn : 0 ≤ n) : (0 ≤ if k < n then k else n) ∧ (if k < n then k else n) ≤ n := by
  split <;> omega
theorem f29_ok {G} (l : List (List UInt8)) (hl : l.length ≤ 9223372036854775807) : HP Tryd.prog G 29 [strs l] (fun r => r = .d (strs (l.take 30))) := by
  refine funZ_ok Tryd.func29 rfl (by decide +kernel) (by simp [Tryd.ntmps29]) (veil fun E => ?_)
  unfold strs
  simp only [go_sem, Nat.reduceEqDiff, Nat.reduceLT, ↓reduceIte, Nat.reduceAdd, Nat.reduceMul, Nat.reduceLeDiff, Nat.reduceSub, Nat.reduceBEq, Int.reduceEq, Int.reduceLT, Int.reduceLE, Int.reduceToNat, Int.reduceAdd, Int.reduceSub, Int.reduceNeg, UInt8.reduceToNat]
  rw [cut_map D.str 30 (by decide) l]
  simp only [go_sem, Nat.reduceEqDiff, Nat.reduceLT, ↓reduceIte, Nat.reduceAdd, Nat.reduceMul, Nat.reduceLeDiff, Nat.reduceSub, Nat.reduceBEq, Int.reduceEq, Int.reduceLT, Int.reduceLE, Int.reduceToNat, Int.reduceAdd, Int.reduceSub, Int.reduceNeg, UInt8.reduceToNat]
  refine ⟨cut_in 30 _ (by decide) (by omega), by simp only [List.length_take]; omega, [([9], none, (l.take 30).map .str)], ?_⟩
  simp only [go_sem, Nat.reduceEqDiff, Nat.reduceLT, ↓reduceIte, Nat.reduceAdd, Nat.reduceMul, Nat.reduceLeDiff, Nat.reduceSub, Nat.reduceBEq, Int.reduceEq, Int.reduceLT, Int.reduceLE, Int.reduceToNat, Int.reduceAdd, Int.reduceSub, Int.reduceNeg, UInt8.reduceToNat]
  first
    | rfl
    | (rw [← List.length_map (f := D.str), List.take_length]; rfl)
theorem f29_nil {G} : HP Tryd.prog G 29 [.nils] (fun r => r = .d (strs [])) := by
  refine funZ_ok Tryd.func29 rfl (by decide +kernel) (by simp [Tryd.ntmps29]) (veil fun E => ?_)
  simp only [go_sem, Nat.reduceEqDiff, Nat.reduceLT, ↓reduceIte, Nat.reduceAdd, Nat.reduceMul, Nat.reduceLeDiff, Nat.reduceSub, Nat.reduceBEq, Int.reduceEq, Int.reduceLT, Int.reduceLE, Int.reduceToNat, Int.reduceAdd, Int.reduceSub, Int.reduceNeg, UInt8.reduceToNat]
  refine ⟨[([9], none, [])], ?_⟩
  simp only [go_sem, Nat.reduceEqDiff, Nat.reduceLT, ↓reduceIte, Nat.reduceAdd, Nat.reduceMul, Nat.reduceLeDiff, Nat.reduceSub, Nat.reduceBEq, Int.reduceEq, Int.reduceLT, Int.reduceLE, Int.reduceToNat, Int.reduceAdd, Int.reduceSub, Int.reduceNeg, UInt8.reduceToNat]
  rfl
end Go.Proofs.YtmplpdjddjiioaaDoor
