/-
  Names: bytes of words, words, keywords: both answers.
-/
import Derived.Test.YtjoneaifakonjaaDoorH3
import Derived.Test.YtjoneaifakonjaaDoorE1
set_option linter.all false
namespace Go.Proofs.YtjoneaifakonjaaDoor
open Go.Ab
variable {t : TypeId} {fz : Nat × Nat}
def smZ (n : Int) : Bool := (decide (97 ≤ n) && decide (n ≤ 122)) || decide (n = 95)
def grZ (n : Int) : Bool := decide (65 ≤ n) && decide (n ≤ 90)
def diZ (n : Int) : Bool := decide (48 ≤ n) && decide (n ≤ 57)
def sm (c : UInt8) : Bool := smZ c.toNat
def gr (c : UInt8) : Bool := grZ c.toNat
def mo (c : UInt8) : Bool := sm c || gr c || diZ c.toNat
def u8 (c : UInt8) : D := .int .u8 (c.toNat : Nat)
theorem f45_ok {G} (c : UInt8) : HP Tryd.prog G 45 [u8 c] (fun r => r = .d (.bool (sm c))) := by
  refine funP_ok Tryd.func45 rfl (by decide +kernel) (by simp [Tryd.ntmps45]) (veil fun E => ?_)
  unfold u8
  simp only [go_sem, Nat.reduceEqDiff, Nat.reduceLT, ↓reduceIte, Nat.reduceAdd, Nat.reduceMul, Nat.reduceLeDiff, Nat.reduceSub, Nat.reduceBEq, Int.reduceEq, Int.reduceLT, Int.reduceLE, Int.reduceToNat, Int.reduceAdd, Int.reduceSub, Int.reduceNeg, UInt8.reduceToNat]
  refine e_gifd E (fun h1 => ?_) (fun h1 => ?_) <;> simp only [go_sem, Nat.reduceEqDiff, Nat.reduceLT, ↓reduceIte, Nat.reduceAdd, Nat.reduceMul, Nat.reduceLeDiff, Nat.reduceSub, Nat.reduceBEq, Int.reduceEq, Int.reduceLT, Int.reduceLE, Int.reduceToNat, Int.reduceAdd, Int.reduceSub, Int.reduceNeg, UInt8.reduceToNat]
  · refine e_gifd E (fun h2 => ?_) (fun h2 => ?_) <;> simp only [go_sem, Nat.reduceEqDiff, Nat.reduceLT, ↓reduceIte, Nat.reduceAdd, Nat.reduceMul, Nat.reduceLeDiff, Nat.reduceSub, Nat.reduceBEq, Int.reduceEq, Int.reduceLT, Int.reduceLE, Int.reduceToNat, Int.reduceAdd, Int.reduceSub, Int.reduceNeg, UInt8.reduceToNat]
    · simp [sm, smZ, h1, h2]
    · simp [sm, smZ, h1, h2]
  · simp [sm, smZ, h1]
theorem f47_ok {G} (c : UInt8) : HP Tryd.prog G 47 [u8 c] (fun r => r = .d (.bool (gr c))) := by
  refine funP_ok Tryd.func47 rfl (by decide +kernel) (by simp [Tryd.ntmps47]) (veil fun E => ?_)
  unfold u8
  simp only [go_sem, Nat.reduceEqDiff, Nat.reduceLT, ↓reduceIte, Nat.reduceAdd, Nat.reduceMul, Nat.reduceLeDiff, Nat.reduceSub, Nat.reduceBEq, Int.reduceEq, Int.reduceLT, Int.reduceLE, Int.reduceToNat, Int.reduceAdd, Int.reduceSub, Int.reduceNeg, UInt8.reduceToNat]
  refine e_gifd E (fun h1 => ?_) (fun h1 => ?_) <;> simp only [go_sem, Nat.reduceEqDiff, Nat.reduceLT, ↓reduceIte, Nat.reduceAdd, Nat.reduceMul, Nat.reduceLeDiff, Nat.reduceSub, Nat.reduceBEq, Int.reduceEq, Int.reduceLT, Int.reduceLE, Int.reduceToNat, Int.reduceAdd, Int.reduceSub, Int.reduceNeg, UInt8.reduceToNat]
  · simp [gr, grZ, h1]
  · simp [gr, grZ, h1]
theorem f56_ok {G} (c : UInt8) : HP Tryd.prog G 56 [u8 c] (fun r => r = .d (.bool (mo c))) := by
  refine funP_ok Tryd.func56 rfl (by decide +kernel) (by simp [Tryd.ntmps56]) (veil fun E => ?_)
  unfold u8
  simp only [go_sem, Nat.reduceEqDiff, Nat.reduceLT, ↓reduceIte, Nat.reduceAdd, Nat.reduceMul, Nat.reduceLeDiff, Nat.reduceSub, Nat.reduceBEq, Int.reduceEq, Int.reduceLT, Int.reduceLE, Int.reduceToNat, Int.reduceAdd, Int.reduceSub, Int.reduceNeg, UInt8.reduceToNat]
  refine e_call E (f45_ok c) rfl rfl (by simp) ?_
  rintro _ rfl
  simp only [go_sem, Nat.reduceEqDiff, Nat.reduceLT, ↓reduceIte, Nat.reduceAdd, Nat.reduceMul, Nat.reduceLeDiff, Nat.reduceSub, Nat.reduceBEq, Int.reduceEq, Int.reduceLT, Int.reduceLE, Int.reduceToNat, Int.reduceAdd, Int.reduceSub, Int.reduceNeg, UInt8.reduceToNat]
  refine e_gif E (fun h1 => ?_) (fun h1 => ?_) <;> simp only [go_sem, Nat.reduceEqDiff, Nat.reduceLT, ↓reduceIte, Nat.reduceAdd, Nat.reduceMul, Nat.reduceLeDiff, Nat.reduceSub, Nat.reduceBEq, Int.reduceEq, Int.reduceLT, Int.reduceLE, Int.reduceToNat, Int.reduceAdd, Int.reduceSub, Int.reduceNeg, UInt8.reduceToNat]
  · simp [mo, h1]
  refine e_call E (f47_ok c) rfl rfl (by simp) ?_
  rintro _ rfl
  simp only [go_sem, Nat.reduceEqDiff, Nat.reduceLT, ↓reduceIte, Nat.reduceAdd, Nat.reduceMul, Nat.reduceLeDiff, Nat.reduceSub, Nat.reduceBEq, Int.reduceEq, Int.reduceLT, Int.reduceLE, Int.reduceToNat, Int.reduceAdd, Int.reduceSub, Int.reduceNeg, UInt8.reduceToNat]
  refine e_gif E (fun h2 => ?_) (fun h2 => ?_) <;> simp only [go_sem, Nat.reduceEqDiff, Nat.reduceLT, ↓reduceIte, Nat.reduceAdd, Nat.reduceMul, Nat.reduceLeDiff, Nat.reduceSub, Nat.reduceBEq, Int.reduceEq, Int.reduceLT, Int.reduceLE, Int.reduceToNat, Int.reduceAdd, Int.reduceSub, Int.reduceNeg, UInt8.reduceToNat]
  · simp [mo, h2]
  refine e_gifd E (fun h3 => ?_) (fun h3 => ?_) <;> simp only [go_sem, Nat.reduceEqDiff, Nat.reduceLT, ↓reduceIte, Nat.reduceAdd, Nat.reduceMul, Nat.reduceLeDiff, Nat.reduceSub, Nat.reduceBEq, Int.reduceEq, Int.reduceLT, Int.reduceLE, Int.reduceToNat, Int.reduceAdd, Int.reduceSub, Int.reduceNeg, UInt8.reduceToNat]
  · simp [mo, h1, h2, diZ, h3]
  · simp [mo, h1, h2, diZ, h3]
/-- How many bytes go on. -/
def wlen : List UInt8 → Nat
  | [] => 0
  | c :: r => if mo c then wlen r + 1 else 0
def wordN (l : List UInt8) : Nat := match l with
  | [] => 0
  | c :: r => if sm c || gr c then wlen r + 1 else 0
theorem wlen_drop {l : List UInt8} {i : Nat} (h : i < l.length) : wlen (l.drop i) = if mo (l.getD i 0) then wlen (l.drop (i + 1)) + 1 else 0 := by
  have e : l.getD i 0 = l[i] := by simp [h]
  rw [List.drop_eq_getElem_cons h, wlen, e]
theorem wlen_end {l : List UInt8} : wlen (l.drop l.length) = 0 := by rw [List.drop_length]; rfl
theorem wlen_le : ∀ l : List UInt8, wlen l ≤ l.length
  | [] => Nat.le_refl _
  | c :: r => by
    unfold wlen
    have := wlen_le r
    split <;> simp <;> omega
theorem wordN_cons {l : List UInt8} (h : 1 ≤ l.length) : wordN l = if sm (l.getD 0 0) || gr (l.getD 0 0) then wlen (l.drop 1) + 1 else 0 := by
  cases l with
  | nil => simp at h
  | cons c r => rfl
theorem f49_ok {G} (l : List UInt8) (hl : l.length ≤ 9223372036854775807) : HP Tryd.prog G 49 [.str l] (fun r => r = .d (i64 (wordN l))) := by
  refine funP_ok Tryd.func49 rfl (by decide +kernel) (by simp [Tryd.ntmps49]) (veil fun E => ?_)
  simp only [go_sem, Nat.reduceEqDiff, Nat.reduceLT, ↓reduceIte, Nat.reduceAdd, Nat.reduceMul, Nat.reduceLeDiff, Nat.reduceSub, Nat.reduceBEq, Int.reduceEq, Int.reduceLT, Int.reduceLE, Int.reduceToNat, Int.reduceAdd, Int.reduceSub, Int.reduceNeg, UInt8.reduceToNat]
  refine e_gif E (fun h0 => ?_) (fun h0 => ?_) <;> simp only [go_sem, Nat.reduceEqDiff, Nat.reduceLT, ↓reduceIte, Nat.reduceAdd, Nat.reduceMul, Nat.reduceLeDiff, Nat.reduceSub, Nat.reduceBEq, Int.reduceEq, Int.reduceLT, Int.reduceLE, Int.reduceToNat, Int.reduceAdd, Int.reduceSub, Int.reduceNeg, UInt8.reduceToNat]
  · have : l = [] := by simpa using h0
    subst this; rfl
  have h0 : 1 ≤ l.length := by
    cases l with
    | nil => simp at h0
    | cons c r => simp
  refine ⟨by omega, ?_⟩
  refine e_call E (f45_ok (l.getD 0 0)) rfl rfl (by simp) ?_
  rintro _ rfl
  simp only [go_sem, Nat.reduceEqDiff, Nat.reduceLT, ↓reduceIte, Nat.reduceAdd, Nat.reduceMul, Nat.reduceLeDiff, Nat.reduceSub, Nat.reduceBEq, Int.reduceEq, Int.reduceLT, Int.reduceLE, Int.reduceToNat, Int.reduceAdd, Int.reduceSub, Int.reduceNeg, UInt8.reduceToNat]
  refine e_gif E (fun h1 => ?_) (fun h1 => ?_) <;> simp only [go_sem, Nat.reduceEqDiff, Nat.reduceLT, ↓reduceIte, Nat.reduceAdd, Nat.reduceMul, Nat.reduceLeDiff, Nat.reduceSub, Nat.reduceBEq, Int.reduceEq, Int.reduceLT, Int.reduceLE, Int.reduceToNat, Int.reduceAdd, Int.reduceSub, Int.reduceNeg, UInt8.reduceToNat]
  · have h1 : sm (l.getD 0 0) = false := by simpa using h1
    refine ⟨by omega, ?_⟩
    refine e_call E (f47_ok (l.getD 0 0)) rfl rfl (by simp) ?_
    rintro _ rfl
    simp only [go_sem, Nat.reduceEqDiff, Nat.reduceLT, ↓reduceIte, Nat.reduceAdd, Nat.reduceMul, Nat.reduceLeDiff, Nat.reduceSub, Nat.reduceBEq, Int.reduceEq, Int.reduceLT, Int.reduceLE, Int.reduceToNat, Int.reduceAdd, Int.reduceSub, Int.reduceNeg, UInt8.reduceToNat]
    refine e_if E (fun h2 => ?_) (fun h2 => ?_) <;> simp only [go_sem, Nat.reduceEqDiff, Nat.reduceLT, ↓reduceIte, Nat.reduceAdd, Nat.reduceMul, Nat.reduceLeDiff, Nat.reduceSub, Nat.reduceBEq, Int.reduceEq, Int.reduceLT, Int.reduceLE, Int.reduceToNat, Int.reduceAdd, Int.reduceSub, Int.reduceNeg, UInt8.reduceToNat]
    · have h2 : gr (l.getD 0 0) = false := by simpa using h2
      rw [wordN_cons h0, h1, h2]; rfl
    · have h2 : gr (l.getD 0 0) = true := by simpa using h2
      have hsg : (sm (l.getD 0 0) || gr (l.getD 0 0)) = true := by rw [h2, Bool.or_true]
      refine loopP_e E (X := { i : Nat // i ≤ l.length ∧ i + wlen (l.drop i) = wlen (l.drop 1) + 1 }) (fun x => [(0, .d (.str l)), (3, .d (i64 x.1))]) (fun x => l.length - x.1) rfl ⟨1, h0, by omega⟩ ?_ ?_
      · simp only [go_sem, Nat.reduceEqDiff, Nat.reduceLT, ↓reduceIte, Nat.reduceAdd, Nat.reduceMul, Nat.reduceLeDiff, Nat.reduceSub, Nat.reduceBEq, Int.reduceEq, Int.reduceLT, Int.reduceLE, Int.reduceToNat, Int.reduceAdd, Int.reduceSub, Int.reduceNeg, UInt8.reduceToNat]
        all_goals rfl
      rintro ⟨i, hi, hw⟩ E'
      simp only [go_sem, Nat.reduceEqDiff, Nat.reduceLT, ↓reduceIte, Nat.reduceAdd, Nat.reduceMul, Nat.reduceLeDiff, Nat.reduceSub, Nat.reduceBEq, Int.reduceEq, Int.reduceLT, Int.reduceLE, Int.reduceToNat, Int.reduceAdd, Int.reduceSub, Int.reduceNeg, UInt8.reduceToNat]
      have hn : wordN l = wlen (l.drop 1) + 1 := by rw [wordN_cons h0, hsg, if_pos rfl]
      refine e_gifd E' (fun h3 => ?_) (fun h3 => ?_) <;> simp only [go_sem, Nat.reduceEqDiff, Nat.reduceLT, ↓reduceIte, Nat.reduceAdd, Nat.reduceMul, Nat.reduceLeDiff, Nat.reduceSub, Nat.reduceBEq, Int.reduceEq, Int.reduceLT, Int.reduceLE, Int.reduceToNat, Int.reduceAdd, Int.reduceSub, Int.reduceNeg, UInt8.reduceToNat]
      · have hi' : i < l.length := by omega
        have hwd := wlen_drop hi'
        refine ⟨⟨by omega, by omega⟩, ?_⟩
        refine e_call E' (f56_ok (l.getD i 0)) rfl rfl (by simp) ?_
        rintro _ rfl
        simp only [go_sem, Nat.reduceEqDiff, Nat.reduceLT, ↓reduceIte, Nat.reduceAdd, Nat.reduceMul, Nat.reduceLeDiff, Nat.reduceSub, Nat.reduceBEq, Int.reduceEq, Int.reduceLT, Int.reduceLE, Int.reduceToNat, Int.reduceAdd, Int.reduceSub, Int.reduceNeg, UInt8.reduceToNat]
        refine e_if E' (fun h4 => ?_) (fun h4 => ?_) <;> simp only [go_sem, Nat.reduceEqDiff, Nat.reduceLT, ↓reduceIte, Nat.reduceAdd, Nat.reduceMul, Nat.reduceLeDiff, Nat.reduceSub, Nat.reduceBEq, Int.reduceEq, Int.reduceLT, Int.reduceLE, Int.reduceToNat, Int.reduceAdd, Int.reduceSub, Int.reduceNeg, UInt8.reduceToNat]
        · rw [h4, if_pos rfl] at hwd
          refine ⟨⟨i + 1, by omega, by omega⟩, by show l.length - (i + 1) < _; omega, ?_⟩
          rw [w64_in ⟨by omega, by omega⟩]; rfl
        · rw [h4, if_neg (by simp)] at hwd
          rw [hn]
          exact congrArg (fun n : Nat => AV.d (i64 (n : Int))) (by omega)
      · have hil : i = l.length := by omega
        subst hil
        rw [wlen_end] at hw
        rw [hn]
        exact congrArg (fun n : Nat => AV.d (i64 (n : Int))) (by omega)
  · have h1 : sm (l.getD 0 0) = true := by simpa using h1
    have hsg : (sm (l.getD 0 0) || gr (l.getD 0 0)) = true := by rw [h1, Bool.true_or]
    refine loopP_e E (X := { i : Nat // i ≤ l.length ∧ i + wlen (l.drop i) = wlen (l.drop 1) + 1 }) (fun x => [(0, .d (.str l)), (3, .d (i64 x.1))]) (fun x => l.length - x.1) rfl ⟨1, h0, by omega⟩ ?_ ?_
    · simp only [go_sem, Nat.reduceEqDiff, Nat.reduceLT, ↓reduceIte, Nat.reduceAdd, Nat.reduceMul, Nat.reduceLeDiff, Nat.reduceSub, Nat.reduceBEq, Int.reduceEq, Int.reduceLT, Int.reduceLE, Int.reduceToNat, Int.reduceAdd, Int.reduceSub, Int.reduceNeg, UInt8.reduceToNat]
      all_goals rfl
    rintro ⟨i, hi, hw⟩ E'
    simp only [go_sem, Nat.reduceEqDiff, Nat.reduceLT, ↓reduceIte, Nat.reduceAdd, Nat.reduceMul, Nat.reduceLeDiff, Nat.reduceSub, Nat.reduceBEq, Int.reduceEq, Int.reduceLT, Int.reduceLE, Int.reduceToNat, Int.reduceAdd, Int.reduceSub, Int.reduceNeg, UInt8.reduceToNat]
    have hn : wordN l = wlen (l.drop 1) + 1 := by rw [wordN_cons h0, hsg, if_pos rfl]
    refine e_gifd E' (fun h3 => ?_) (fun h3 => ?_) <;> simp only [go_sem, Nat.reduceEqDiff, Nat.reduceLT, ↓reduceIte, Nat.reduceAdd, Nat.reduceMul, Nat.reduceLeDiff, Nat.reduceSub, Nat.reduceBEq, Int.reduceEq, Int.reduceLT, Int.reduceLE, Int.reduceToNat, Int.reduceAdd, Int.reduceSub, Int.reduceNeg, UInt8.reduceToNat]
    · have hi' : i < l.length := by omega
      have hwd := wlen_drop hi'
      refine ⟨⟨by omega, by omega⟩, ?_⟩
      refine e_call E' (f56_ok (l.getD i 0)) rfl rfl (by simp) ?_
      rintro _ rfl
      simp only [go_sem, Nat.reduceEqDiff, Nat.reduceLT, ↓reduceIte, Nat.reduceAdd, Nat.reduceMul, Nat.reduceLeDiff, Nat.reduceSub, Nat.reduceBEq, Int.reduceEq, Int.reduceLT, Int.reduceLE, Int.reduceToNat, Int.reduceAdd, Int.reduceSub, Int.reduceNeg, UInt8.reduceToNat]
      refine e_if E' (fun h4 => ?_) (fun h4 => ?_) <;> simp only [go_sem, Nat.reduceEqDiff, Nat.reduceLT, ↓reduceIte, Nat.reduceAdd, Nat.reduceMul, Nat.reduceLeDiff, Nat.reduceSub, Nat.reduceBEq, Int.reduceEq, Int.reduceLT, Int.reduceLE, Int.reduceToNat, Int.reduceAdd, Int.reduceSub, Int.reduceNeg, UInt8.reduceToNat]
      · rw [h4, if_pos rfl] at hwd
        refine ⟨⟨i + 1, by omega, by omega⟩, by show l.length - (i + 1) < _; omega, ?_⟩
        rw [w64_in ⟨by omega, by omega⟩]; rfl
      · rw [h4, if_neg (by simp)] at hwd
        rw [hn]
        exact congrArg (fun n : Nat => AV.d (i64 (n : Int))) (by omega)
    · have hil : i = l.length := by omega
      subst hil
      rw [wlen_end] at hw
      rw [hn]
      exact congrArg (fun n : Nat => AV.d (i64 (n : Int))) (by omega)
end Go.Proofs.YtjoneaifakonjaaDoor
