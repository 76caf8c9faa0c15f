/-
  The program's texts as numbers.
-/
import Derived.Test.YtmplpdjddjiioaaDoorU7
import Derived.Test.YtmplpdjddjiioaaDoorH9
set_option linter.all false
namespace Go.Proofs.YtmplpdjddjiioaaDoor
open Go.Ab
variable {t : TypeId} {fz : Nat × Nat}
theorem decode_hi (s : ByteArray) (pos : Nat) (hb : 128 ≤ (s.get! (pos + 0)).toNat) : 58 ≤ (Utf8.decode s pos).1 := by
  unfold Utf8.decode
  simp only [Utf8.runeError]
  repeat' split
  all_goals (try simp only [Bool.and_eq_true, decide_eq_true_eq] at *)
  all_goals omega
theorem rune_cases {l : List UInt8} {pos : Nat} (h : pos < l.length) : (Utf8.decode ⟨l.toArray⟩ pos = (l[pos].toNat, 1)) ∨ (58 ≤ (Utf8.decode ⟨l.toArray⟩ pos).1 ∧ isDig l[pos] = false) := by
  have hs : pos < (⟨l.toArray⟩ : ByteArray).size := by simpa [ByteArray.size] using h
  have e : (⟨l.toArray⟩ : ByteArray)[pos]'hs = l[pos] := by rfl
  have e2 : (⟨l.toArray⟩ : ByteArray).get! (pos + 0) = l[pos] := by
    show (⟨l.toArray⟩ : ByteArray).get! pos = _
    simp [ByteArray.get!, getElem!_pos, h]
  by_cases ha : l[pos].toNat < 128
  · have := decode_ascii ⟨l.toArray⟩ pos hs (by rw [e]; exact ha)
    rw [e] at this
    exact .inl this
  · refine .inr ⟨decode_hi _ _ (by rw [e2]; omega), isDig_hi (by omega)⟩
def digR (l : List UInt8) : AV := .tup [.d (i64 (if digOk l then -(valD l : Int) else 0)), .d (i64 (if digOk l then 0 else 5))]
theorem digR_no {l : List UInt8} (h : digOk l = false) : digR l = .tup [.d (i64 0), .d (i64 5)] := by simp [digR, h]
theorem dig32 {c : UInt8} (h : isDig c = true) : w64 (IntKind.i32.wrap (((c.toNat : Nat) : Int) - 48)) = ((c.toNat - 48 : Nat) : Int) := by
  simp only [isDig, Bool.and_eq_true, decide_eq_true_eq] at h
  have e : IntKind.i32.wrap (((c.toNat : Nat) : Int) - 48) = ((c.toNat - 48 : Nat) : Int) := by
    simp only [IntKind.wrap, IntKind.bits, IntKind.signed]
    simp
    split <;> omega
  rw [e, w64_in ⟨by omega, by omega⟩]
theorem lim_eq {d : Nat} (h : d ≤ 9) : w64 ((w64 (-9223372036854775808 + ((d : Nat) : Int))).tdiv 10) = -(((9223372036854775808 - d) / 10 : Nat) : Int) := by
  have h1 : w64 (-9223372036854775808 + ((d : Nat) : Int)) = -9223372036854775808 + ((d : Nat) : Int) := w64_in ⟨by omega, by omega⟩
  rw [h1]
  have h2 := tdiv10 (-9223372036854775808 + ((d : Nat) : Int))
  rw [if_pos (by omega)] at h2
  rw [h2, w64_in ⟨by omega, by omega⟩]
  omega
theorem f56_ok {G} (l : List UInt8) : HP Tryd.prog G 56 [.str l] (fun r => r = digR l) := by
  refine funP_ok Tryd.func56 rfl (by decide +kernel) (by simp [Tryd.ntmps56]) (veil fun E => ?_)
  simp only [go_sem, Nat.reduceEqDiff, Nat.reduceLT, ↓reduceIte, Nat.reduceAdd, Nat.reduceMul, Nat.reduceLeDiff, Nat.reduceSub, Nat.reduceBEq, Int.reduceEq, Int.reduceLT, Int.reduceLE, Int.reduceToNat, Int.reduceAdd, Int.reduceSub, Int.reduceNeg, UInt8.reduceToNat]
  refine e_gif E (fun h0 => ?_) (fun h0 => ?_) <;> simp only [go_sem, Nat.reduceEqDiff, Nat.reduceLT, ↓reduceIte, Nat.reduceAdd, Nat.reduceMul, Nat.reduceLeDiff, Nat.reduceSub, Nat.reduceBEq, Int.reduceEq, Int.reduceLT, Int.reduceLE, Int.reduceToNat, Int.reduceAdd, Int.reduceSub, Int.reduceNeg, UInt8.reduceToNat]
  · have : l = [] := by simpa using h0
    subst this; rfl
  have h0 : 1 ≤ l.length := by
    cases l with
    | nil => simp at h0
    | cons c r => simp
  refine e_gifd E (fun h1 => ?_) (fun h1 => ?_) <;> simp only [go_sem, Nat.reduceEqDiff, Nat.reduceLT, ↓reduceIte, Nat.reduceAdd, Nat.reduceMul, Nat.reduceLeDiff, Nat.reduceSub, Nat.reduceBEq, Int.reduceEq, Int.reduceLT, Int.reduceLE, Int.reduceToNat, Int.reduceAdd, Int.reduceSub, Int.reduceNeg, UInt8.reduceToNat]
  · refine ⟨by omega, ?_⟩
    refine e_ifd E (fun h4 => ?_) (fun h4 => ?_) <;> simp only [go_sem, Nat.reduceEqDiff, Nat.reduceLT, ↓reduceIte, Nat.reduceAdd, Nat.reduceMul, Nat.reduceLeDiff, Nat.reduceSub, Nat.reduceBEq, Int.reduceEq, Int.reduceLT, Int.reduceLE, Int.reduceToNat, Int.reduceAdd, Int.reduceSub, Int.reduceNeg, UInt8.reduceToNat]
    · have : digOk l = false := digOk_lead (by omega) (by rw [head_getD (by omega)]; congr 1; exact (u8_eq (n := 48) (by omega)).1 h4)
      rw [digR_no this]
    · refine e_ranges E l (by rw [ti9]) rfl (by simp) (by simp [mk_used]) ?_
      simp only [go_sem, Nat.reduceEqDiff, Nat.reduceLT, ↓reduceIte, Nat.reduceAdd, Nat.reduceMul, Nat.reduceLeDiff, Nat.reduceSub, Nat.reduceBEq, Int.reduceEq, Int.reduceLT, Int.reduceLE, Int.reduceToNat, Int.reduceAdd, Int.reduceSub, Int.reduceNeg, UInt8.reduceToNat]
      refine loopO_e E (X := { i : Nat // i ≤ l.length ∧ (l.take i).all isDig = true ∧ valD (l.take i) ≤ 9223372036854775808 }) (fun x => [(0, .d (.str l)), (4, .d (i64 (-(valD (l.take x.1) : Nat)))), (21, .it [21])]) (fun x => [([21], .siter l x.1)]) [21] (fun x => l.length - x.1) ⟨0, by simp, by simp, by simp [valD]⟩ ?_ ?_
      · simp only [go_sem, Nat.reduceEqDiff, Nat.reduceLT, ↓reduceIte, Nat.reduceAdd, Nat.reduceMul, Nat.reduceLeDiff, Nat.reduceSub, Nat.reduceBEq, Int.reduceEq, Int.reduceLT, Int.reduceLE, Int.reduceToNat, Int.reduceAdd, Int.reduceSub, Int.reduceNeg, UInt8.reduceToNat]
        simp [valD]
      rintro ⟨i, hi, hall, hvi⟩ E0
      refine hideQ E0 fun Q' hQ E' => ?_
      simp only at hi hall hvi ⊢
      simp only [go_sem, Nat.reduceEqDiff, Nat.reduceLT, ↓reduceIte, Nat.reduceAdd, Nat.reduceMul, Nat.reduceLeDiff, Nat.reduceSub, Nat.reduceBEq, Int.reduceEq, Int.reduceLT, Int.reduceLE, Int.reduceToNat, Int.reduceAdd, Int.reduceSub, Int.reduceNeg, UInt8.reduceToNat]
      refine e_nexts E' [21] l i rfl rfl (by simp) (fun hi' => ?_) (fun hi' => ?_) <;> simp only [go_sem, Nat.reduceEqDiff, Nat.reduceLT, ↓reduceIte, Nat.reduceAdd, Nat.reduceMul, Nat.reduceLeDiff, Nat.reduceSub, Nat.reduceBEq, Int.reduceEq, Int.reduceLT, Int.reduceLE, Int.reduceToNat, Int.reduceAdd, Int.reduceSub, Int.reduceNeg, UInt8.reduceToNat]
      · rcases rune_cases hi' with e | ⟨e1, e2⟩
        · rw [e]
          refine e_gifd E' (fun h7 => ?_) (fun h7 => ?_) <;> simp only [go_sem, Nat.reduceEqDiff, Nat.reduceLT, ↓reduceIte, Nat.reduceAdd, Nat.reduceMul, Nat.reduceLeDiff, Nat.reduceSub, Nat.reduceBEq, Int.reduceEq, Int.reduceLT, Int.reduceLE, Int.reduceToNat, Int.reduceAdd, Int.reduceSub, Int.reduceNeg, UInt8.reduceToNat]
          · rw [hQ]
            simp only [go_sem, Nat.reduceEqDiff, Nat.reduceLT, ↓reduceIte, Nat.reduceAdd, Nat.reduceMul, Nat.reduceLeDiff, Nat.reduceSub, Nat.reduceBEq, Int.reduceEq, Int.reduceLT, Int.reduceLE, Int.reduceToNat, Int.reduceAdd, Int.reduceSub, Int.reduceNeg, UInt8.reduceToNat]
            rw [digR_no (digOk_at hi' (isDig_lo h7))]
          refine e_ifd E' (fun h8 => ?_) (fun h8 => ?_) <;> simp only [go_sem, Nat.reduceEqDiff, Nat.reduceLT, ↓reduceIte, Nat.reduceAdd, Nat.reduceMul, Nat.reduceLeDiff, Nat.reduceSub, Nat.reduceBEq, Int.reduceEq, Int.reduceLT, Int.reduceLE, Int.reduceToNat, Int.reduceAdd, Int.reduceSub, Int.reduceNeg, UInt8.reduceToNat]
          · rw [hQ]
            simp only [go_sem, Nat.reduceEqDiff, Nat.reduceLT, ↓reduceIte, Nat.reduceAdd, Nat.reduceMul, Nat.reduceLeDiff, Nat.reduceSub, Nat.reduceBEq, Int.reduceEq, Int.reduceLT, Int.reduceLE, Int.reduceToNat, Int.reduceAdd, Int.reduceSub, Int.reduceNeg, UInt8.reduceToNat]
            rw [digR_no (digOk_at hi' (isDig_hi h8))]
          have hd := isDig_ok h7 h8
          have hdv : l[i].toNat - 48 ≤ 9 := by
            simp only [isDig, Bool.and_eq_true, decide_eq_true_eq] at hd
            omega
          rw [dig32 hd, lim_eq hdv]
          refine e_ifd E' (fun h9 => ?_) (fun h9 => ?_) <;> simp only [go_sem, Nat.reduceEqDiff, Nat.reduceLT, ↓reduceIte, Nat.reduceAdd, Nat.reduceMul, Nat.reduceLeDiff, Nat.reduceSub, Nat.reduceBEq, Int.reduceEq, Int.reduceLT, Int.reduceLE, Int.reduceToNat, Int.reduceAdd, Int.reduceSub, Int.reduceNeg, UInt8.reduceToNat]
          · rw [hQ]
            simp only [go_sem, Nat.reduceEqDiff, Nat.reduceLT, ↓reduceIte, Nat.reduceAdd, Nat.reduceMul, Nat.reduceLeDiff, Nat.reduceSub, Nat.reduceBEq, Int.reduceEq, Int.reduceLT, Int.reduceLE, Int.reduceToNat, Int.reduceAdd, Int.reduceSub, Int.reduceNeg, UInt8.reduceToNat]
            rw [digR_no (digOk_big (i := i + 1) (by rw [valD_step hi']; omega))]
          · rw [hQ]
            simp only [go_sem, Nat.reduceEqDiff, Nat.reduceLT, ↓reduceIte, Nat.reduceAdd, Nat.reduceMul, Nat.reduceLeDiff, Nat.reduceSub, Nat.reduceBEq, Int.reduceEq, Int.reduceLT, Int.reduceLE, Int.reduceToNat, Int.reduceAdd, Int.reduceSub, Int.reduceNeg, UInt8.reduceToNat]
            have hle : 10 * valD (l.take i) + (l[i].toNat - 48) ≤ 9223372036854775808 := by omega
            refine ⟨⟨i + 1, by omega, all_step hi' hall hd, by rw [valD_step hi']; exact hle⟩, by show l.length - (i + 1) < _; omega, ?_, rfl⟩
            show AV.d (D.int IntKind.i64 _) = AV.d (i64 (-((valD (l.take (i + 1)) : Nat) : Int)))
            rw [valD_step hi']
            congr 2
            simp only [w64_def]
            repeat' split
            all_goals omega
        · refine e_gifd E' (fun h7 => ?_) (fun h7 => ?_) <;> simp only [go_sem, Nat.reduceEqDiff, Nat.reduceLT, ↓reduceIte, Nat.reduceAdd, Nat.reduceMul, Nat.reduceLeDiff, Nat.reduceSub, Nat.reduceBEq, Int.reduceEq, Int.reduceLT, Int.reduceLE, Int.reduceToNat, Int.reduceAdd, Int.reduceSub, Int.reduceNeg, UInt8.reduceToNat]
          · omega
          refine e_ifd E' (fun h8 => ?_) (fun h8 => ?_) <;> simp only [go_sem, Nat.reduceEqDiff, Nat.reduceLT, ↓reduceIte, Nat.reduceAdd, Nat.reduceMul, Nat.reduceLeDiff, Nat.reduceSub, Nat.reduceBEq, Int.reduceEq, Int.reduceLT, Int.reduceLE, Int.reduceToNat, Int.reduceAdd, Int.reduceSub, Int.reduceNeg, UInt8.reduceToNat]
          · rw [hQ]
            simp only [go_sem, Nat.reduceEqDiff, Nat.reduceLT, ↓reduceIte, Nat.reduceAdd, Nat.reduceMul, Nat.reduceLeDiff, Nat.reduceSub, Nat.reduceBEq, Int.reduceEq, Int.reduceLT, Int.reduceLE, Int.reduceToNat, Int.reduceAdd, Int.reduceSub, Int.reduceNeg, UInt8.reduceToNat]
            rw [digR_no (digOk_at hi' e2)]
          · omega
      · rw [hQ]
        simp only [go_sem, Nat.reduceEqDiff, Nat.reduceLT, ↓reduceIte, Nat.reduceAdd, Nat.reduceMul, Nat.reduceLeDiff, Nat.reduceSub, Nat.reduceBEq, Int.reduceEq, Int.reduceLT, Int.reduceLE, Int.reduceToNat, Int.reduceAdd, Int.reduceSub, Int.reduceNeg, UInt8.reduceToNat]
        have hil : i = l.length := by omega
        subst hil
        rw [List.take_length] at hall hvi ⊢
        have hlead : ¬ (1 < l.length ∧ l.head? = some 48) := by
          rintro ⟨g1, g2⟩
          first
            | exact h4 ((u8_eq (n := 48) (by omega)).2 (by rw [head_getD (by omega)] at g2; exact Option.some.inj g2))
            | omega
        have hok := digOk_yes h0 hlead hall hvi
        simp [digR, hok]
  · refine e_ranges E l (by rw [ti9]) rfl (by simp) (by simp [mk_used]) ?_
    simp only [go_sem, Nat.reduceEqDiff, Nat.reduceLT, ↓reduceIte, Nat.reduceAdd, Nat.reduceMul, Nat.reduceLeDiff, Nat.reduceSub, Nat.reduceBEq, Int.reduceEq, Int.reduceLT, Int.reduceLE, Int.reduceToNat, Int.reduceAdd, Int.reduceSub, Int.reduceNeg, UInt8.reduceToNat]
    refine loopO_e E (X := { i : Nat // i ≤ l.length ∧ (l.take i).all isDig = true ∧ valD (l.take i) ≤ 9223372036854775808 }) (fun x => [(0, .d (.str l)), (4, .d (i64 (-(valD (l.take x.1) : Nat)))), (21, .it [21])]) (fun x => [([21], .siter l x.1)]) [21] (fun x => l.length - x.1) ⟨0, by simp, by simp, by simp [valD]⟩ ?_ ?_
    · simp only [go_sem, Nat.reduceEqDiff, Nat.reduceLT, ↓reduceIte, Nat.reduceAdd, Nat.reduceMul, Nat.reduceLeDiff, Nat.reduceSub, Nat.reduceBEq, Int.reduceEq, Int.reduceLT, Int.reduceLE, Int.reduceToNat, Int.reduceAdd, Int.reduceSub, Int.reduceNeg, UInt8.reduceToNat]
      simp [valD]
    rintro ⟨i, hi, hall, hvi⟩ E0
    refine hideQ E0 fun Q' hQ E' => ?_
    simp only at hi hall hvi ⊢
    simp only [go_sem, Nat.reduceEqDiff, Nat.reduceLT, ↓reduceIte, Nat.reduceAdd, Nat.reduceMul, Nat.reduceLeDiff, Nat.reduceSub, Nat.reduceBEq, Int.reduceEq, Int.reduceLT, Int.reduceLE, Int.reduceToNat, Int.reduceAdd, Int.reduceSub, Int.reduceNeg, UInt8.reduceToNat]
    refine e_nexts E' [21] l i rfl rfl (by simp) (fun hi' => ?_) (fun hi' => ?_) <;> simp only [go_sem, Nat.reduceEqDiff, Nat.reduceLT, ↓reduceIte, Nat.reduceAdd, Nat.reduceMul, Nat.reduceLeDiff, Nat.reduceSub, Nat.reduceBEq, Int.reduceEq, Int.reduceLT, Int.reduceLE, Int.reduceToNat, Int.reduceAdd, Int.reduceSub, Int.reduceNeg, UInt8.reduceToNat]
    · rcases rune_cases hi' with e | ⟨e1, e2⟩
      · rw [e]
        refine e_gifd E' (fun h7 => ?_) (fun h7 => ?_) <;> simp only [go_sem, Nat.reduceEqDiff, Nat.reduceLT, ↓reduceIte, Nat.reduceAdd, Nat.reduceMul, Nat.reduceLeDiff, Nat.reduceSub, Nat.reduceBEq, Int.reduceEq, Int.reduceLT, Int.reduceLE, Int.reduceToNat, Int.reduceAdd, Int.reduceSub, Int.reduceNeg, UInt8.reduceToNat]
        · rw [hQ]
          simp only [go_sem, Nat.reduceEqDiff, Nat.reduceLT, ↓reduceIte, Nat.reduceAdd, Nat.reduceMul, Nat.reduceLeDiff, Nat.reduceSub, Nat.reduceBEq, Int.reduceEq, Int.reduceLT, Int.reduceLE, Int.reduceToNat, Int.reduceAdd, Int.reduceSub, Int.reduceNeg, UInt8.reduceToNat]
          rw [digR_no (digOk_at hi' (isDig_lo h7))]
        refine e_ifd E' (fun h8 => ?_) (fun h8 => ?_) <;> simp only [go_sem, Nat.reduceEqDiff, Nat.reduceLT, ↓reduceIte, Nat.reduceAdd, Nat.reduceMul, Nat.reduceLeDiff, Nat.reduceSub, Nat.reduceBEq, Int.reduceEq, Int.reduceLT, Int.reduceLE, Int.reduceToNat, Int.reduceAdd, Int.reduceSub, Int.reduceNeg, UInt8.reduceToNat]
        · rw [hQ]
          simp only [go_sem, Nat.reduceEqDiff, Nat.reduceLT, ↓reduceIte, Nat.reduceAdd, Nat.reduceMul, Nat.reduceLeDiff, Nat.reduceSub, Nat.reduceBEq, Int.reduceEq, Int.reduceLT, Int.reduceLE, Int.reduceToNat, Int.reduceAdd, Int.reduceSub, Int.reduceNeg, UInt8.reduceToNat]
          rw [digR_no (digOk_at hi' (isDig_hi h8))]
        have hd := isDig_ok h7 h8
        have hdv : l[i].toNat - 48 ≤ 9 := by
          simp only [isDig, Bool.and_eq_true, decide_eq_true_eq] at hd
          omega
        rw [dig32 hd, lim_eq hdv]
        refine e_ifd E' (fun h9 => ?_) (fun h9 => ?_) <;> simp only [go_sem, Nat.reduceEqDiff, Nat.reduceLT, ↓reduceIte, Nat.reduceAdd, Nat.reduceMul, Nat.reduceLeDiff, Nat.reduceSub, Nat.reduceBEq, Int.reduceEq, Int.reduceLT, Int.reduceLE, Int.reduceToNat, Int.reduceAdd, Int.reduceSub, Int.reduceNeg, UInt8.reduceToNat]
        · rw [hQ]
          simp only [go_sem, Nat.reduceEqDiff, Nat.reduceLT, ↓reduceIte, Nat.reduceAdd, Nat.reduceMul, Nat.reduceLeDiff, Nat.reduceSub, Nat.reduceBEq, Int.reduceEq, Int.reduceLT, Int.reduceLE, Int.reduceToNat, Int.reduceAdd, Int.reduceSub, Int.reduceNeg, UInt8.reduceToNat]
          rw [digR_no (digOk_big (i := i + 1) (by rw [valD_step hi']; omega))]
        · rw [hQ]
          simp only [go_sem, Nat.reduceEqDiff, Nat.reduceLT, ↓reduceIte, Nat.reduceAdd, Nat.reduceMul, Nat.reduceLeDiff, Nat.reduceSub, Nat.reduceBEq, Int.reduceEq, Int.reduceLT, Int.reduceLE, Int.reduceToNat, Int.reduceAdd, Int.reduceSub, Int.reduceNeg, UInt8.reduceToNat]
          have hle : 10 * valD (l.take i) + (l[i].toNat - 48) ≤ 9223372036854775808 := by omega
          refine ⟨⟨i + 1, by omega, all_step hi' hall hd, by rw [valD_step hi']; exact hle⟩, by show l.length - (i + 1) < _; omega, ?_, rfl⟩
          show AV.d (D.int IntKind.i64 _) = AV.d (i64 (-((valD (l.take (i + 1)) : Nat) : Int)))
          rw [valD_step hi']
          congr 2
          simp only [w64_def]
          repeat' split
          all_goals omega
      · refine e_gifd E' (fun h7 => ?_) (fun h7 => ?_) <;> simp only [go_sem, Nat.reduceEqDiff, Nat.reduceLT, ↓reduceIte, Nat.reduceAdd, Nat.reduceMul, Nat.reduceLeDiff, Nat.reduceSub, Nat.reduceBEq, Int.reduceEq, Int.reduceLT, Int.reduceLE, Int.reduceToNat, Int.reduceAdd, Int.reduceSub, Int.reduceNeg, UInt8.reduceToNat]
        · omega
        refine e_ifd E' (fun h8 => ?_) (fun h8 => ?_) <;> simp only [go_sem, Nat.reduceEqDiff, Nat.reduceLT, ↓reduceIte, Nat.reduceAdd, Nat.reduceMul, Nat.reduceLeDiff, Nat.reduceSub, Nat.reduceBEq, Int.reduceEq, Int.reduceLT, Int.reduceLE, Int.reduceToNat, Int.reduceAdd, Int.reduceSub, Int.reduceNeg, UInt8.reduceToNat]
        · rw [hQ]
          simp only [go_sem, Nat.reduceEqDiff, Nat.reduceLT, ↓reduceIte, Nat.reduceAdd, Nat.reduceMul, Nat.reduceLeDiff, Nat.reduceSub, Nat.reduceBEq, Int.reduceEq, Int.reduceLT, Int.reduceLE, Int.reduceToNat, Int.reduceAdd, Int.reduceSub, Int.reduceNeg, UInt8.reduceToNat]
          rw [digR_no (digOk_at hi' e2)]
        · omega
    · rw [hQ]
      simp only [go_sem, Nat.reduceEqDiff, Nat.reduceLT, ↓reduceIte, Nat.reduceAdd, Nat.reduceMul, Nat.reduceLeDiff, Nat.reduceSub, Nat.reduceBEq, Int.reduceEq, Int.reduceLT, Int.reduceLE, Int.reduceToNat, Int.reduceAdd, Int.reduceSub, Int.reduceNeg, UInt8.reduceToNat]
      have hil : i = l.length := by omega
      subst hil
      rw [List.take_length] at hall hvi ⊢
      have hlead : ¬ (1 < l.length ∧ l.head? = some 48) := by
        rintro ⟨g1, g2⟩
        first
          | exact h4 ((u8_eq (n := 48) (by omega)).2 (by rw [head_getD (by omega)] at g2; exact Option.some.inj g2))
          | omega
      have hok := digOk_yes h0 hlead hall hvi
      simp [digR, hok]
end Go.Proofs.YtmplpdjddjiioaaDoor
