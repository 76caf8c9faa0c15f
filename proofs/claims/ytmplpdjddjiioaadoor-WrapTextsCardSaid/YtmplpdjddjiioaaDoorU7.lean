/-
  The document's answer for texts as numbers.
-/
import Derived.Test.YtmplpdjddjiioaaDoorU6
import Derived.Test.YtmplpdjddjiioaaDoorG6
set_option linter.all false
namespace Go.Proofs.YtmplpdjddjiioaaDoor
open Go.Ab
variable {t : TypeId} {fz : Nat × Nat}
theorem u8_eq {c : UInt8} {n : Nat} (hn : n < 256) : ((c.toNat : Nat) : Int) = (n : Int) ↔ c = UInt8.ofNat n := by
  constructor
  · intro h
    apply UInt8.toNat_inj.1
    rw [UInt8.toNat_ofNat']
    omega
  · rintro rfl
    rw [UInt8.toNat_ofNat']
    omega
theorem isDig_lo {c : UInt8} (h : ((c.toNat : Nat) : Int) < 48) : isDig c = false := by
  unfold isDig; rw [decide_eq_false (by omega)]; rfl
theorem isDig_hi {c : UInt8} (h : 57 < ((c.toNat : Nat) : Int)) : isDig c = false := by
  unfold isDig; rw [decide_eq_false (p := c.toNat ≤ 57) (by omega), Bool.and_false]
theorem isDig_ok {c : UInt8} (h1 : ¬ ((c.toNat : Nat) : Int) < 48) (h2 : ¬ 57 < ((c.toNat : Nat) : Int)) : isDig c = true := by
  unfold isDig; rw [decide_eq_true (by omega), decide_eq_true (by omega)]; rfl
theorem head_getD {l : List UInt8} (h : 1 ≤ l.length) : l.head? = some (l.getD 0 0) := by
  cases l with
  | nil => simp at h
  | cons c r => rfl
theorem parse_neg {l : List UInt8} (hok : digOk l = true) (hpv : 1 ≤ valD l) (hv : valD l ≤ 9223372036854775808) : parseR2 true l = .tup [.d (i64 (w64 (u64 (0 - (valD l : Int))))), .d (i64 0)] := by
  have h1 : parseOk true l = true := by simp [parseOk, hok]; omega
  have h2 : w64 (u64 (0 - (valD l : Int))) = -(valD l : Int) := by rw [w64_def, u64_def]; split <;> omega
  rw [h2]
  simp [parseR2, h1]
theorem parse_pos {l : List UInt8} (hok : digOk l = true) (hv : valD l < 9223372036854775808) : parseR2 false l = .tup [.d (i64 (w64 (valD l : Int))), .d (i64 0)] := by
  have h1 : parseOk false l = true := by simp [parseOk, hok]; omega
  have h2 : w64 (valD l : Int) = valD l := w64_in ⟨by omega, by omega⟩
  rw [h2]
  simp [parseR2, h1]
theorem f36_neg {G} (l : List UInt8) : HP Tryd.prog G 36 [.str (126 :: l)] (fun r => r = parseR2 true l) := by
  refine funP_ok Tryd.func36 rfl (by decide +kernel) (by simp [Tryd.ntmps36]) (veil fun E => ?_)
  simp only [go_sem, Nat.reduceEqDiff, Nat.reduceLT, ↓reduceIte, Nat.reduceAdd, Nat.reduceMul, Nat.reduceLeDiff, Nat.reduceSub, Nat.reduceBEq, Int.reduceEq, Int.reduceLT, Int.reduceLE, Int.reduceToNat, Int.reduceAdd, Int.reduceSub, Int.reduceNeg, UInt8.reduceToNat]
  refine e_gifd E (fun h => ?_) (fun h => absurd (by simp) h)
  simp only [go_sem, Nat.reduceEqDiff, Nat.reduceLT, ↓reduceIte, Nat.reduceAdd, Nat.reduceMul, Nat.reduceLeDiff, Nat.reduceSub, Nat.reduceBEq, Int.reduceEq, Int.reduceLT, Int.reduceLE, Int.reduceToNat, Int.reduceAdd, Int.reduceSub, Int.reduceNeg, UInt8.reduceToNat]
  refine ⟨by simp, by simp; omega, ?_⟩
  refine e_gifd E (fun h1 => ?_) (fun h1 => ?_) <;> simp only [go_sem, Nat.reduceEqDiff, Nat.reduceLT, ↓reduceIte, Nat.reduceAdd, Nat.reduceMul, Nat.reduceLeDiff, Nat.reduceSub, Nat.reduceBEq, Int.reduceEq, Int.reduceLT, Int.reduceLE, Int.reduceToNat, Int.reduceAdd, Int.reduceSub, Int.reduceNeg, UInt8.reduceToNat]
  · have : l = [] := List.length_eq_zero_iff.1 (by omega)
    subst this; rfl
  refine e_gifd E (fun h2 => ?_) (fun h2 => ?_) <;> simp only [go_sem, Nat.reduceEqDiff, Nat.reduceLT, ↓reduceIte, Nat.reduceAdd, Nat.reduceMul, Nat.reduceLeDiff, Nat.reduceSub, Nat.reduceBEq, Int.reduceEq, Int.reduceLT, Int.reduceLE, Int.reduceToNat, Int.reduceAdd, Int.reduceSub, Int.reduceNeg, UInt8.reduceToNat]
  · have : digOk l = false := by
      cases hd : digOk l with
      | false => rfl
      | true => have := digOk_len hd; omega
    rw [parseR2_no (parseOk_no this)]
  refine e_gifd E (fun h3 => ?_) (fun h3 => ?_) <;> simp only [go_sem, Nat.reduceEqDiff, Nat.reduceLT, ↓reduceIte, Nat.reduceAdd, Nat.reduceMul, Nat.reduceLeDiff, Nat.reduceSub, Nat.reduceBEq, Int.reduceEq, Int.reduceLT, Int.reduceLE, Int.reduceToNat, Int.reduceAdd, Int.reduceSub, Int.reduceNeg, UInt8.reduceToNat]
  · refine ⟨by omega, ?_⟩
    refine e_gifd E (fun h4 => ?_) (fun h4 => ?_) <;> simp only [go_sem, Nat.reduceEqDiff, Nat.reduceLT, ↓reduceIte, Nat.reduceAdd, Nat.reduceMul, Nat.reduceLeDiff, Nat.reduceSub, Nat.reduceBEq, Int.reduceEq, Int.reduceLT, Int.reduceLE, Int.reduceToNat, Int.reduceAdd, Int.reduceSub, Int.reduceNeg, UInt8.reduceToNat]
    · have : digOk l = false := digOk_lead (by omega) (by rw [head_getD (by omega)]; congr 1; exact (u8_eq (n := 48) (by omega)).1 h4)
      rw [parseR2_no (parseOk_no this)]
    · refine e_if E (fun h5 => ?_) (fun h5 => ?_) <;> simp only [go_sem, Nat.reduceEqDiff, Nat.reduceLT, ↓reduceIte, Nat.reduceAdd, Nat.reduceMul, Nat.reduceLeDiff, Nat.reduceSub, Nat.reduceBEq, Int.reduceEq, Int.reduceLT, Int.reduceLE, Int.reduceToNat, Int.reduceAdd, Int.reduceSub, Int.reduceNeg, UInt8.reduceToNat]
      · have : l = [48] := by simpa using h5
        subst this; simp at h3
      · have hne : l ≠ [48] := by simpa using h5
        have hlead : ¬ (1 < l.length ∧ l.head? = some 48) := by
          rintro ⟨g1, g2⟩
          first
            | exact h4 ((u8_eq (n := 48) (by omega)).2 (by rw [head_getD (by omega)] at g2; exact Option.some.inj g2))
            | omega
        refine loopP_e E (X := { i : Nat // i ≤ l.length ∧ (l.take i).all isDig = true }) (fun x => [(0, .d (.str (126 :: l))), (4, .d (.bool true)), (5, .d (.str l)), (6, .d (.int .u64 (valD (l.take x.1)))), (7, .d (i64 x.1))]) (fun x => l.length - x.1) rfl ⟨0, by simp, by simp⟩ ?_ ?_
        · simp only [go_sem, Nat.reduceEqDiff, Nat.reduceLT, ↓reduceIte, Nat.reduceAdd, Nat.reduceMul, Nat.reduceLeDiff, Nat.reduceSub, Nat.reduceBEq, Int.reduceEq, Int.reduceLT, Int.reduceLE, Int.reduceToNat, Int.reduceAdd, Int.reduceSub, Int.reduceNeg, UInt8.reduceToNat]
          simp [valD]
        rintro ⟨i, hi, hall⟩ E'
        simp only [go_sem, Nat.reduceEqDiff, Nat.reduceLT, ↓reduceIte, Nat.reduceAdd, Nat.reduceMul, Nat.reduceLeDiff, Nat.reduceSub, Nat.reduceBEq, Int.reduceEq, Int.reduceLT, Int.reduceLE, Int.reduceToNat, Int.reduceAdd, Int.reduceSub, Int.reduceNeg, UInt8.reduceToNat]
        refine e_ifd E' (fun h6 => ?_) (fun h6 => ?_) <;> simp only [go_sem, Nat.reduceEqDiff, Nat.reduceLT, ↓reduceIte, Nat.reduceAdd, Nat.reduceMul, Nat.reduceLeDiff, Nat.reduceSub, Nat.reduceBEq, Int.reduceEq, Int.reduceLT, Int.reduceLE, Int.reduceToNat, Int.reduceAdd, Int.reduceSub, Int.reduceNeg, UInt8.reduceToNat]
        · have hi' : i < l.length := by omega
          have hc : l.getD i 0 = l[i] := by simp [hi']
          refine ⟨⟨by omega, by omega⟩, ?_⟩
          refine e_gifd E' (fun h7 => ?_) (fun h7 => ?_) <;> simp only [go_sem, Nat.reduceEqDiff, Nat.reduceLT, ↓reduceIte, Nat.reduceAdd, Nat.reduceMul, Nat.reduceLeDiff, Nat.reduceSub, Nat.reduceBEq, Int.reduceEq, Int.reduceLT, Int.reduceLE, Int.reduceToNat, Int.reduceAdd, Int.reduceSub, Int.reduceNeg, UInt8.reduceToNat]
          · have : digOk l = false := digOk_at hi' (isDig_lo (by rw [← hc]; exact h7))
            rw [parseR2_no (parseOk_no this)]
          refine ⟨⟨by omega, by omega⟩, ?_⟩
          refine e_ifd E' (fun h8 => ?_) (fun h8 => ?_) <;> simp only [go_sem, Nat.reduceEqDiff, Nat.reduceLT, ↓reduceIte, Nat.reduceAdd, Nat.reduceMul, Nat.reduceLeDiff, Nat.reduceSub, Nat.reduceBEq, Int.reduceEq, Int.reduceLT, Int.reduceLE, Int.reduceToNat, Int.reduceAdd, Int.reduceSub, Int.reduceNeg, UInt8.reduceToNat]
          · have : digOk l = false := digOk_at hi' (isDig_hi (by rw [← hc]; exact h8))
            rw [parseR2_no (parseOk_no this)]
          have hd := isDig_ok h7 h8
          exact ⟨⟨by omega, by omega⟩, ⟨i + 1, by omega, all_step hi' hall (by rw [← hc]; exact hd)⟩, by show l.length - (i + 1) < _; omega, by rw [acc_step hi' (by omega) hall hd], by rw [w64_in ⟨by omega, by omega⟩]; rfl⟩
        · have hil : i = l.length := by omega
          subst hil
          rw [List.take_length] at hall ⊢
          have hv := valD_lt l hall
          refine e_gifd E (fun h7 => ?_) (fun h7 => ?_) <;> simp only [go_sem, Nat.reduceEqDiff, Nat.reduceLT, ↓reduceIte, Nat.reduceAdd, Nat.reduceMul, Nat.reduceLeDiff, Nat.reduceSub, Nat.reduceBEq, Int.reduceEq, Int.reduceLT, Int.reduceLE, Int.reduceToNat, Int.reduceAdd, Int.reduceSub, Int.reduceNeg, UInt8.reduceToNat]
          · have : digOk l = false := by
              have : ¬ valD l ≤ 9223372036854775808 := by omega
              simp [digOk, this]
            rw [parseR2_no (parseOk_no this)]
          have hok := digOk_yes (by omega) hlead hall (by omega)
          have hpv := pos_val (by omega) hlead hne hall
          refine e_gifd E (fun h9 => ?_) (fun h9 => ?_) <;> simp only [go_sem, Nat.reduceEqDiff, Nat.reduceLT, ↓reduceIte, Nat.reduceAdd, Nat.reduceMul, Nat.reduceLeDiff, Nat.reduceSub, Nat.reduceBEq, Int.reduceEq, Int.reduceLT, Int.reduceLE, Int.reduceToNat, Int.reduceAdd, Int.reduceSub, Int.reduceNeg, UInt8.reduceToNat]
          · rw [parse_neg hok hpv (by omega)]
          · rw [parse_neg hok hpv (by omega)]
  · refine e_if E (fun h5 => ?_) (fun h5 => ?_) <;> simp only [go_sem, Nat.reduceEqDiff, Nat.reduceLT, ↓reduceIte, Nat.reduceAdd, Nat.reduceMul, Nat.reduceLeDiff, Nat.reduceSub, Nat.reduceBEq, Int.reduceEq, Int.reduceLT, Int.reduceLE, Int.reduceToNat, Int.reduceAdd, Int.reduceSub, Int.reduceNeg, UInt8.reduceToNat]
    · have : l = [48] := by simpa using h5
      subst this; rfl
    · have hne : l ≠ [48] := by simpa using h5
      have hlead : ¬ (1 < l.length ∧ l.head? = some 48) := by
        rintro ⟨g1, g2⟩
        first
          | exact h4 ((u8_eq (n := 48) (by omega)).2 (by rw [head_getD (by omega)] at g2; exact Option.some.inj g2))
          | omega
      refine loopP_e E (X := { i : Nat // i ≤ l.length ∧ (l.take i).all isDig = true }) (fun x => [(0, .d (.str (126 :: l))), (4, .d (.bool true)), (5, .d (.str l)), (6, .d (.int .u64 (valD (l.take x.1)))), (7, .d (i64 x.1))]) (fun x => l.length - x.1) rfl ⟨0, by simp, by simp⟩ ?_ ?_
      · simp only [go_sem, Nat.reduceEqDiff, Nat.reduceLT, ↓reduceIte, Nat.reduceAdd, Nat.reduceMul, Nat.reduceLeDiff, Nat.reduceSub, Nat.reduceBEq, Int.reduceEq, Int.reduceLT, Int.reduceLE, Int.reduceToNat, Int.reduceAdd, Int.reduceSub, Int.reduceNeg, UInt8.reduceToNat]
        simp [valD]
      rintro ⟨i, hi, hall⟩ E'
      simp only [go_sem, Nat.reduceEqDiff, Nat.reduceLT, ↓reduceIte, Nat.reduceAdd, Nat.reduceMul, Nat.reduceLeDiff, Nat.reduceSub, Nat.reduceBEq, Int.reduceEq, Int.reduceLT, Int.reduceLE, Int.reduceToNat, Int.reduceAdd, Int.reduceSub, Int.reduceNeg, UInt8.reduceToNat]
      refine e_ifd E' (fun h6 => ?_) (fun h6 => ?_) <;> simp only [go_sem, Nat.reduceEqDiff, Nat.reduceLT, ↓reduceIte, Nat.reduceAdd, Nat.reduceMul, Nat.reduceLeDiff, Nat.reduceSub, Nat.reduceBEq, Int.reduceEq, Int.reduceLT, Int.reduceLE, Int.reduceToNat, Int.reduceAdd, Int.reduceSub, Int.reduceNeg, UInt8.reduceToNat]
      · have hi' : i < l.length := by omega
        have hc : l.getD i 0 = l[i] := by simp [hi']
        refine ⟨⟨by omega, by omega⟩, ?_⟩
        refine e_gifd E' (fun h7 => ?_) (fun h7 => ?_) <;> simp only [go_sem, Nat.reduceEqDiff, Nat.reduceLT, ↓reduceIte, Nat.reduceAdd, Nat.reduceMul, Nat.reduceLeDiff, Nat.reduceSub, Nat.reduceBEq, Int.reduceEq, Int.reduceLT, Int.reduceLE, Int.reduceToNat, Int.reduceAdd, Int.reduceSub, Int.reduceNeg, UInt8.reduceToNat]
        · have : digOk l = false := digOk_at hi' (isDig_lo (by rw [← hc]; exact h7))
          rw [parseR2_no (parseOk_no this)]
        refine ⟨⟨by omega, by omega⟩, ?_⟩
        refine e_ifd E' (fun h8 => ?_) (fun h8 => ?_) <;> simp only [go_sem, Nat.reduceEqDiff, Nat.reduceLT, ↓reduceIte, Nat.reduceAdd, Nat.reduceMul, Nat.reduceLeDiff, Nat.reduceSub, Nat.reduceBEq, Int.reduceEq, Int.reduceLT, Int.reduceLE, Int.reduceToNat, Int.reduceAdd, Int.reduceSub, Int.reduceNeg, UInt8.reduceToNat]
        · have : digOk l = false := digOk_at hi' (isDig_hi (by rw [← hc]; exact h8))
          rw [parseR2_no (parseOk_no this)]
        have hd := isDig_ok h7 h8
        exact ⟨⟨by omega, by omega⟩, ⟨i + 1, by omega, all_step hi' hall (by rw [← hc]; exact hd)⟩, by show l.length - (i + 1) < _; omega, by rw [acc_step hi' (by omega) hall hd], by rw [w64_in ⟨by omega, by omega⟩]; rfl⟩
      · have hil : i = l.length := by omega
        subst hil
        rw [List.take_length] at hall ⊢
        have hv := valD_lt l hall
        refine e_gifd E (fun h7 => ?_) (fun h7 => ?_) <;> simp only [go_sem, Nat.reduceEqDiff, Nat.reduceLT, ↓reduceIte, Nat.reduceAdd, Nat.reduceMul, Nat.reduceLeDiff, Nat.reduceSub, Nat.reduceBEq, Int.reduceEq, Int.reduceLT, Int.reduceLE, Int.reduceToNat, Int.reduceAdd, Int.reduceSub, Int.reduceNeg, UInt8.reduceToNat]
        · have : digOk l = false := by
            have : ¬ valD l ≤ 9223372036854775808 := by omega
            simp [digOk, this]
          rw [parseR2_no (parseOk_no this)]
        have hok := digOk_yes (by omega) hlead hall (by omega)
        have hpv := pos_val (by omega) hlead hne hall
        refine e_gifd E (fun h9 => ?_) (fun h9 => ?_) <;> simp only [go_sem, Nat.reduceEqDiff, Nat.reduceLT, ↓reduceIte, Nat.reduceAdd, Nat.reduceMul, Nat.reduceLeDiff, Nat.reduceSub, Nat.reduceBEq, Int.reduceEq, Int.reduceLT, Int.reduceLE, Int.reduceToNat, Int.reduceAdd, Int.reduceSub, Int.reduceNeg, UInt8.reduceToNat]
        · rw [parse_neg hok hpv (by omega)]
        · rw [parse_neg hok hpv (by omega)]
theorem f36_nil {G} : HP Tryd.prog G 36 [.str []] (fun r => r = parseR2 false []) := by
  refine funP_ok Tryd.func36 rfl (by decide +kernel) (by simp [Tryd.ntmps36]) (veil fun E => ?_)
  simp only [go_sem, Nat.reduceEqDiff, Nat.reduceLT, ↓reduceIte, Nat.reduceAdd, Nat.reduceMul, Nat.reduceLeDiff, Nat.reduceSub, Nat.reduceBEq, Int.reduceEq, Int.reduceLT, Int.reduceLE, Int.reduceToNat, Int.reduceAdd, Int.reduceSub, Int.reduceNeg, UInt8.reduceToNat]
  rfl
theorem f36_pos {G} (l : List UInt8) (h0 : 1 ≤ l.length) (hc : ¬ (((l.getD 0 0).toNat : Nat) : Int) = 126) : HP Tryd.prog G 36 [.str l] (fun x => x = parseR2 false l) := by
  refine funP_ok Tryd.func36 rfl (by decide +kernel) (by simp [Tryd.ntmps36]) (veil fun E => ?_)
  simp only [go_sem, Nat.reduceEqDiff, Nat.reduceLT, ↓reduceIte, Nat.reduceAdd, Nat.reduceMul, Nat.reduceLeDiff, Nat.reduceSub, Nat.reduceBEq, Int.reduceEq, Int.reduceLT, Int.reduceLE, Int.reduceToNat, Int.reduceAdd, Int.reduceSub, Int.reduceNeg, UInt8.reduceToNat]
  refine e_gifd E (fun h => ?_) (fun h => absurd (by omega) h)
  simp only [go_sem, Nat.reduceEqDiff, Nat.reduceLT, ↓reduceIte, Nat.reduceAdd, Nat.reduceMul, Nat.reduceLeDiff, Nat.reduceSub, Nat.reduceBEq, Int.reduceEq, Int.reduceLT, Int.reduceLE, Int.reduceToNat, Int.reduceAdd, Int.reduceSub, Int.reduceNeg, UInt8.reduceToNat]
  refine ⟨by omega, ?_⟩
  rw [show decide ((((l.getD 0 0).toNat : Nat) : Int) = 126) = false from decide_eq_false hc]
  simp only [go_sem, Nat.reduceEqDiff, Nat.reduceLT, ↓reduceIte, Nat.reduceAdd, Nat.reduceMul, Nat.reduceLeDiff, Nat.reduceSub, Nat.reduceBEq, Int.reduceEq, Int.reduceLT, Int.reduceLE, Int.reduceToNat, Int.reduceAdd, Int.reduceSub, Int.reduceNeg, UInt8.reduceToNat]
  refine e_gifd E (fun h1 => ?_) (fun h1 => ?_) <;> simp only [go_sem, Nat.reduceEqDiff, Nat.reduceLT, ↓reduceIte, Nat.reduceAdd, Nat.reduceMul, Nat.reduceLeDiff, Nat.reduceSub, Nat.reduceBEq, Int.reduceEq, Int.reduceLT, Int.reduceLE, Int.reduceToNat, Int.reduceAdd, Int.reduceSub, Int.reduceNeg, UInt8.reduceToNat]
  · omega
  refine e_gifd E (fun h2 => ?_) (fun h2 => ?_) <;> simp only [go_sem, Nat.reduceEqDiff, Nat.reduceLT, ↓reduceIte, Nat.reduceAdd, Nat.reduceMul, Nat.reduceLeDiff, Nat.reduceSub, Nat.reduceBEq, Int.reduceEq, Int.reduceLT, Int.reduceLE, Int.reduceToNat, Int.reduceAdd, Int.reduceSub, Int.reduceNeg, UInt8.reduceToNat]
  · have : digOk l = false := by
      cases hd : digOk l with
      | false => rfl
      | true => have := digOk_len hd; omega
    rw [parseR2_no (parseOk_no this)]
  refine e_gifd E (fun h3 => ?_) (fun h3 => ?_) <;> simp only [go_sem, Nat.reduceEqDiff, Nat.reduceLT, ↓reduceIte, Nat.reduceAdd, Nat.reduceMul, Nat.reduceLeDiff, Nat.reduceSub, Nat.reduceBEq, Int.reduceEq, Int.reduceLT, Int.reduceLE, Int.reduceToNat, Int.reduceAdd, Int.reduceSub, Int.reduceNeg, UInt8.reduceToNat]
  · refine ⟨by omega, ?_⟩
    refine e_gifd E (fun h4 => ?_) (fun h4 => ?_) <;> simp only [go_sem, Nat.reduceEqDiff, Nat.reduceLT, ↓reduceIte, Nat.reduceAdd, Nat.reduceMul, Nat.reduceLeDiff, Nat.reduceSub, Nat.reduceBEq, Int.reduceEq, Int.reduceLT, Int.reduceLE, Int.reduceToNat, Int.reduceAdd, Int.reduceSub, Int.reduceNeg, UInt8.reduceToNat]
    · have : digOk l = false := digOk_lead (by omega) (by rw [head_getD (by omega)]; congr 1; exact (u8_eq (n := 48) (by omega)).1 h4)
      rw [parseR2_no (parseOk_no this)]
    · have hlead : ¬ (1 < l.length ∧ l.head? = some 48) := by
        rintro ⟨g1, g2⟩
        first
          | exact h4 ((u8_eq (n := 48) (by omega)).2 (by rw [head_getD (by omega)] at g2; exact Option.some.inj g2))
          | omega
      refine loopP_e E (X := { i : Nat // i ≤ l.length ∧ (l.take i).all isDig = true }) (fun x => [(0, .d (.str l)), (4, .d (.bool false)), (5, .d (.str l)), (6, .d (.int .u64 (valD (l.take x.1)))), (7, .d (i64 x.1))]) (fun x => l.length - x.1) rfl ⟨0, by simp, by simp⟩ ?_ ?_
      · simp only [go_sem, Nat.reduceEqDiff, Nat.reduceLT, ↓reduceIte, Nat.reduceAdd, Nat.reduceMul, Nat.reduceLeDiff, Nat.reduceSub, Nat.reduceBEq, Int.reduceEq, Int.reduceLT, Int.reduceLE, Int.reduceToNat, Int.reduceAdd, Int.reduceSub, Int.reduceNeg, UInt8.reduceToNat]
        simp [valD]
      rintro ⟨i, hi, hall⟩ E'
      simp only [go_sem, Nat.reduceEqDiff, Nat.reduceLT, ↓reduceIte, Nat.reduceAdd, Nat.reduceMul, Nat.reduceLeDiff, Nat.reduceSub, Nat.reduceBEq, Int.reduceEq, Int.reduceLT, Int.reduceLE, Int.reduceToNat, Int.reduceAdd, Int.reduceSub, Int.reduceNeg, UInt8.reduceToNat]
      refine e_ifd E' (fun h6 => ?_) (fun h6 => ?_) <;> simp only [go_sem, Nat.reduceEqDiff, Nat.reduceLT, ↓reduceIte, Nat.reduceAdd, Nat.reduceMul, Nat.reduceLeDiff, Nat.reduceSub, Nat.reduceBEq, Int.reduceEq, Int.reduceLT, Int.reduceLE, Int.reduceToNat, Int.reduceAdd, Int.reduceSub, Int.reduceNeg, UInt8.reduceToNat]
      · have hi' : i < l.length := by omega
        have hc : l.getD i 0 = l[i] := by simp [hi']
        refine ⟨⟨by omega, by omega⟩, ?_⟩
        refine e_gifd E' (fun h7 => ?_) (fun h7 => ?_) <;> simp only [go_sem, Nat.reduceEqDiff, Nat.reduceLT, ↓reduceIte, Nat.reduceAdd, Nat.reduceMul, Nat.reduceLeDiff, Nat.reduceSub, Nat.reduceBEq, Int.reduceEq, Int.reduceLT, Int.reduceLE, Int.reduceToNat, Int.reduceAdd, Int.reduceSub, Int.reduceNeg, UInt8.reduceToNat]
        · have : digOk l = false := digOk_at hi' (isDig_lo (by rw [← hc]; exact h7))
          rw [parseR2_no (parseOk_no this)]
        refine ⟨⟨by omega, by omega⟩, ?_⟩
        refine e_ifd E' (fun h8 => ?_) (fun h8 => ?_) <;> simp only [go_sem, Nat.reduceEqDiff, Nat.reduceLT, ↓reduceIte, Nat.reduceAdd, Nat.reduceMul, Nat.reduceLeDiff, Nat.reduceSub, Nat.reduceBEq, Int.reduceEq, Int.reduceLT, Int.reduceLE, Int.reduceToNat, Int.reduceAdd, Int.reduceSub, Int.reduceNeg, UInt8.reduceToNat]
        · have : digOk l = false := digOk_at hi' (isDig_hi (by rw [← hc]; exact h8))
          rw [parseR2_no (parseOk_no this)]
        have hd := isDig_ok h7 h8
        exact ⟨⟨by omega, by omega⟩, ⟨i + 1, by omega, all_step hi' hall (by rw [← hc]; exact hd)⟩, by show l.length - (i + 1) < _; omega, by rw [acc_step hi' (by omega) hall hd], by rw [w64_in ⟨by omega, by omega⟩]; rfl⟩
      · have hil : i = l.length := by omega
        subst hil
        rw [List.take_length] at hall ⊢
        have hv := valD_lt l hall
        refine e_gifd E (fun h7 => ?_) (fun h7 => ?_) <;> simp only [go_sem, Nat.reduceEqDiff, Nat.reduceLT, ↓reduceIte, Nat.reduceAdd, Nat.reduceMul, Nat.reduceLeDiff, Nat.reduceSub, Nat.reduceBEq, Int.reduceEq, Int.reduceLT, Int.reduceLE, Int.reduceToNat, Int.reduceAdd, Int.reduceSub, Int.reduceNeg, UInt8.reduceToNat]
        · have : digOk l = false := by
            have : ¬ valD l ≤ 9223372036854775808 := by omega
            simp [digOk, this]
          rw [parseR2_no (parseOk_no this)]
        have hok := digOk_yes (by omega) hlead hall (by omega)
        refine e_gifd E (fun h9 => ?_) (fun h9 => ?_) <;> simp only [go_sem, Nat.reduceEqDiff, Nat.reduceLT, ↓reduceIte, Nat.reduceAdd, Nat.reduceMul, Nat.reduceLeDiff, Nat.reduceSub, Nat.reduceBEq, Int.reduceEq, Int.reduceLT, Int.reduceLE, Int.reduceToNat, Int.reduceAdd, Int.reduceSub, Int.reduceNeg, UInt8.reduceToNat]
        · have : parseOk false l = false := by simp [parseOk, hok]; omega
          rw [parseR2_no this]
        · rw [parse_pos hok (by omega)]
  · have hlead : ¬ (1 < l.length ∧ l.head? = some 48) := by
      rintro ⟨g1, g2⟩
      first
        | exact h4 ((u8_eq (n := 48) (by omega)).2 (by rw [head_getD (by omega)] at g2; exact Option.some.inj g2))
        | omega
    refine loopP_e E (X := { i : Nat // i ≤ l.length ∧ (l.take i).all isDig = true }) (fun x => [(0, .d (.str l)), (4, .d (.bool false)), (5, .d (.str l)), (6, .d (.int .u64 (valD (l.take x.1)))), (7, .d (i64 x.1))]) (fun x => l.length - x.1) rfl ⟨0, by simp, by simp⟩ ?_ ?_
    · simp only [go_sem, Nat.reduceEqDiff, Nat.reduceLT, ↓reduceIte, Nat.reduceAdd, Nat.reduceMul, Nat.reduceLeDiff, Nat.reduceSub, Nat.reduceBEq, Int.reduceEq, Int.reduceLT, Int.reduceLE, Int.reduceToNat, Int.reduceAdd, Int.reduceSub, Int.reduceNeg, UInt8.reduceToNat]
      simp [valD]
    rintro ⟨i, hi, hall⟩ E'
    simp only [go_sem, Nat.reduceEqDiff, Nat.reduceLT, ↓reduceIte, Nat.reduceAdd, Nat.reduceMul, Nat.reduceLeDiff, Nat.reduceSub, Nat.reduceBEq, Int.reduceEq, Int.reduceLT, Int.reduceLE, Int.reduceToNat, Int.reduceAdd, Int.reduceSub, Int.reduceNeg, UInt8.reduceToNat]
    refine e_ifd E' (fun h6 => ?_) (fun h6 => ?_) <;> simp only [go_sem, Nat.reduceEqDiff, Nat.reduceLT, ↓reduceIte, Nat.reduceAdd, Nat.reduceMul, Nat.reduceLeDiff, Nat.reduceSub, Nat.reduceBEq, Int.reduceEq, Int.reduceLT, Int.reduceLE, Int.reduceToNat, Int.reduceAdd, Int.reduceSub, Int.reduceNeg, UInt8.reduceToNat]
    · have hi' : i < l.length := by omega
      have hc : l.getD i 0 = l[i] := by simp [hi']
      refine ⟨⟨by omega, by omega⟩, ?_⟩
      refine e_gifd E' (fun h7 => ?_) (fun h7 => ?_) <;> simp only [go_sem, Nat.reduceEqDiff, Nat.reduceLT, ↓reduceIte, Nat.reduceAdd, Nat.reduceMul, Nat.reduceLeDiff, Nat.reduceSub, Nat.reduceBEq, Int.reduceEq, Int.reduceLT, Int.reduceLE, Int.reduceToNat, Int.reduceAdd, Int.reduceSub, Int.reduceNeg, UInt8.reduceToNat]
      · have : digOk l = false := digOk_at hi' (isDig_lo (by rw [← hc]; exact h7))
        rw [parseR2_no (parseOk_no this)]
      refine ⟨⟨by omega, by omega⟩, ?_⟩
      refine e_ifd E' (fun h8 => ?_) (fun h8 => ?_) <;> simp only [go_sem, Nat.reduceEqDiff, Nat.reduceLT, ↓reduceIte, Nat.reduceAdd, Nat.reduceMul, Nat.reduceLeDiff, Nat.reduceSub, Nat.reduceBEq, Int.reduceEq, Int.reduceLT, Int.reduceLE, Int.reduceToNat, Int.reduceAdd, Int.reduceSub, Int.reduceNeg, UInt8.reduceToNat]
      · have : digOk l = false := digOk_at hi' (isDig_hi (by rw [← hc]; exact h8))
        rw [parseR2_no (parseOk_no this)]
      have hd := isDig_ok h7 h8
      exact ⟨⟨by omega, by omega⟩, ⟨i + 1, by omega, all_step hi' hall (by rw [← hc]; exact hd)⟩, by show l.length - (i + 1) < _; omega, by rw [acc_step hi' (by omega) hall hd], by rw [w64_in ⟨by omega, by omega⟩]; rfl⟩
    · have hil : i = l.length := by omega
      subst hil
      rw [List.take_length] at hall ⊢
      have hv := valD_lt l hall
      refine e_gifd E (fun h7 => ?_) (fun h7 => ?_) <;> simp only [go_sem, Nat.reduceEqDiff, Nat.reduceLT, ↓reduceIte, Nat.reduceAdd, Nat.reduceMul, Nat.reduceLeDiff, Nat.reduceSub, Nat.reduceBEq, Int.reduceEq, Int.reduceLT, Int.reduceLE, Int.reduceToNat, Int.reduceAdd, Int.reduceSub, Int.reduceNeg, UInt8.reduceToNat]
      · have : digOk l = false := by
          have : ¬ valD l ≤ 9223372036854775808 := by omega
          simp [digOk, this]
        rw [parseR2_no (parseOk_no this)]
      have hok := digOk_yes (by omega) hlead hall (by omega)
      refine e_gifd E (fun h9 => ?_) (fun h9 => ?_) <;> simp only [go_sem, Nat.reduceEqDiff, Nat.reduceLT, ↓reduceIte, Nat.reduceAdd, Nat.reduceMul, Nat.reduceLeDiff, Nat.reduceSub, Nat.reduceBEq, Int.reduceEq, Int.reduceLT, Int.reduceLE, Int.reduceToNat, Int.reduceAdd, Int.reduceSub, Int.reduceNeg, UInt8.reduceToNat]
      · have : parseOk false l = false := by simp [parseOk, hok]; omega
        rw [parseR2_no this]
      · rw [parse_pos hok (by omega)]
theorem hasPre_one (l : List UInt8) (h0 : 1 ≤ l.length) : hasPre l [126] = decide ((((l.getD 0 0).toNat : Nat) : Int) = 126) := by
  cases l with
  | nil => simp at h0
  | cons c r =>
    rw [Bool.eq_iff_iff]
    simp [hasPre]
    constructor
    · rintro rfl; rfl
    · intro h; exact UInt8.toNat_inj.1 (show c.toNat = 126 by omega)
theorem f36_ok {G} (l : List UInt8) : HP Tryd.prog G 36 [.str l] (fun r => r = parseR l) := by
  unfold parseR
  by_cases h0 : 1 ≤ l.length
  · rw [hasPre_one l h0]
    by_cases hc : (((l.getD 0 0).toNat : Nat) : Int) = 126
    · rw [decide_eq_true hc, if_pos rfl]
      cases l with
      | nil => simp at h0
      | cons c r =>
        have : c = 126 := UInt8.toNat_inj.1 (by simp at hc; exact Int.ofNat.inj hc)
        subst this
        exact f36_neg r
    · rw [decide_eq_false hc, if_neg (by simp)]
      exact f36_pos l h0 hc
  · have : l = [] := List.length_eq_zero_iff.1 (by omega)
    subst this
    exact f36_nil
end Go.Proofs.YtmplpdjddjiioaaDoor
