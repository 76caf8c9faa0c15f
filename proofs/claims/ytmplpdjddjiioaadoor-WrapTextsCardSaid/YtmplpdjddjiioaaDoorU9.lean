/-
  The program's texts as numbers: what both read; the laws WrapTexts and WrapBack, walked.
-/
import Derived.Test.YtmplpdjddjiioaaDoorU8
set_option linter.all false
namespace Go.Proofs.YtmplpdjddjiioaaDoor
open Go.Ab
variable {t : TypeId} {fz : Nat × Nat}
theorem digOk_le {l : List UInt8} (h : digOk l = true) : valD l ≤ 9223372036854775808 := by
  simp only [digOk, Bool.and_eq_true, decide_eq_true_eq] at h
  exact h.2
theorem neg_zero {l : List UInt8} (h : valD l = 0) : parseR2 true l = .tup [.d (i64 0), .d (i64 5)] := parseR2_no (by simp [parseOk, h])
theorem neg_some {l : List UInt8} (hd : digOk l = true) (h : valD l ≠ 0) : parseR2 true l = .tup [.d (i64 (-(valD l : Int))), .d (i64 0)] := by
  have : parseOk true l = true := by simp [parseOk, hd, h]
  simp [parseR2, this]
theorem f35_t {G} (s : List UInt8) (hp : hasPre s [126] = true) : HP Tryd.prog G 35 [.str s] (fun r => r = parseR2 true (s.drop 1)) := by
  refine funP_ok Tryd.func35 rfl (by decide +kernel) (by simp [Tryd.ntmps35]) (veil fun E => ?_)
  simp only [go_sem, Nat.reduceEqDiff, Nat.reduceLT, ↓reduceIte, Nat.reduceAdd, Nat.reduceMul, Nat.reduceLeDiff, Nat.reduceSub, Nat.reduceBEq, Int.reduceEq, Int.reduceLT, Int.reduceLE, Int.reduceToNat, Int.reduceAdd, Int.reduceSub, Int.reduceNeg, UInt8.reduceToNat]
  refine e_call E (f55_ok s [126]) rfl rfl (by simp) ?_
  rintro _ rfl
  simp only [hp, List.length_cons, List.length_nil]
  simp only [go_sem, Nat.reduceEqDiff, Nat.reduceLT, ↓reduceIte, Nat.reduceAdd, Nat.reduceMul, Nat.reduceLeDiff, Nat.reduceSub, Nat.reduceBEq, Int.reduceEq, Int.reduceLT, Int.reduceLE, Int.reduceToNat, Int.reduceAdd, Int.reduceSub, Int.reduceNeg, UInt8.reduceToNat]
  refine e_call E (f56_ok (s.drop 1)) rfl rfl (by simp) ?_
  rintro _ rfl
  simp only [digR]
  by_cases hd : digOk (s.drop 1) = true
  · have hle := digOk_le hd
    simp only [hd, if_true]
    simp only [go_sem, Nat.reduceEqDiff, Nat.reduceLT, ↓reduceIte, Nat.reduceAdd, Nat.reduceMul, Nat.reduceLeDiff, Nat.reduceSub, Nat.reduceBEq, Int.reduceEq, Int.reduceLT, Int.reduceLE, Int.reduceToNat, Int.reduceAdd, Int.reduceSub, Int.reduceNeg, UInt8.reduceToNat]
    refine e_gifd E (fun h1 => ?_) (fun h1 => ?_) <;> simp only [go_sem, Nat.reduceEqDiff, Nat.reduceLT, ↓reduceIte, Nat.reduceAdd, Nat.reduceMul, Nat.reduceLeDiff, Nat.reduceSub, Nat.reduceBEq, Int.reduceEq, Int.reduceLT, Int.reduceLE, Int.reduceToNat, Int.reduceAdd, Int.reduceSub, Int.reduceNeg, UInt8.reduceToNat]
    · rw [neg_zero (by omega)]
    · rw [neg_some hd (by omega)]
  · simp only [hd, if_false]
    simp only [go_sem, Nat.reduceEqDiff, Nat.reduceLT, ↓reduceIte, Nat.reduceAdd, Nat.reduceMul, Nat.reduceLeDiff, Nat.reduceSub, Nat.reduceBEq, Int.reduceEq, Int.reduceLT, Int.reduceLE, Int.reduceToNat, Int.reduceAdd, Int.reduceSub, Int.reduceNeg, UInt8.reduceToNat]
    rw [parseR2_no (parseOk_no (by simpa using hd))]
theorem f35_f {G} (s : List UInt8) (hp : hasPre s [126] = false) : HP Tryd.prog G 35 [.str s] (fun r => r = parseR2 false s) := by
  refine funP_ok Tryd.func35 rfl (by decide +kernel) (by simp [Tryd.ntmps35]) (veil fun E => ?_)
  simp only [go_sem, Nat.reduceEqDiff, Nat.reduceLT, ↓reduceIte, Nat.reduceAdd, Nat.reduceMul, Nat.reduceLeDiff, Nat.reduceSub, Nat.reduceBEq, Int.reduceEq, Int.reduceLT, Int.reduceLE, Int.reduceToNat, Int.reduceAdd, Int.reduceSub, Int.reduceNeg, UInt8.reduceToNat]
  refine e_call E (f55_ok s [126]) rfl rfl (by simp) ?_
  rintro _ rfl
  simp only [hp, List.length_cons, List.length_nil]
  simp only [go_sem, Nat.reduceEqDiff, Nat.reduceLT, ↓reduceIte, Nat.reduceAdd, Nat.reduceMul, Nat.reduceLeDiff, Nat.reduceSub, Nat.reduceBEq, Int.reduceEq, Int.reduceLT, Int.reduceLE, Int.reduceToNat, Int.reduceAdd, Int.reduceSub, Int.reduceNeg, UInt8.reduceToNat]
  refine e_call E (f56_ok s) rfl rfl (by simp) ?_
  rintro _ rfl
  simp only [digR]
  by_cases hd : digOk s = true
  · have hle := digOk_le hd
    simp only [hd, if_true]
    simp only [go_sem, Nat.reduceEqDiff, Nat.reduceLT, ↓reduceIte, Nat.reduceAdd, Nat.reduceMul, Nat.reduceLeDiff, Nat.reduceSub, Nat.reduceBEq, Int.reduceEq, Int.reduceLT, Int.reduceLE, Int.reduceToNat, Int.reduceAdd, Int.reduceSub, Int.reduceNeg, UInt8.reduceToNat]
    refine e_ifd E (fun h1 => ?_) (fun h1 => ?_) <;> simp only [go_sem, Nat.reduceEqDiff, Nat.reduceLT, ↓reduceIte, Nat.reduceAdd, Nat.reduceMul, Nat.reduceLeDiff, Nat.reduceSub, Nat.reduceBEq, Int.reduceEq, Int.reduceLT, Int.reduceLE, Int.reduceToNat, Int.reduceAdd, Int.reduceSub, Int.reduceNeg, UInt8.reduceToNat]
    · have : parseOk false s = false := by simp [parseOk]; intro _; omega
      rw [parseR2_no this]
    · have : parseOk false s = true := by simp [parseOk, hd]; omega
      simp [parseR2, this]
      rw [w64_in ⟨by omega, by omega⟩]
  · simp only [hd, if_false]
    simp only [go_sem, Nat.reduceEqDiff, Nat.reduceLT, ↓reduceIte, Nat.reduceAdd, Nat.reduceMul, Nat.reduceLeDiff, Nat.reduceSub, Nat.reduceBEq, Int.reduceEq, Int.reduceLT, Int.reduceLE, Int.reduceToNat, Int.reduceAdd, Int.reduceSub, Int.reduceNeg, UInt8.reduceToNat]
    rw [parseR2_no (parseOk_no (by simpa using hd))]
theorem f35_ok {G} (s : List UInt8) : HP Tryd.prog G 35 [.str s] (fun r => r = parseR s) := by
  unfold parseR
  cases hp : hasPre s [126] with
  | true => exact f35_t s hp
  | false => exact f35_f s hp
theorem parseR_tup (s : List UInt8) : ∃ a e, parseR s = .tup [.d (i64 a), .d (i64 e)] := by
  unfold parseR parseR2
  split <;> exact ⟨_, _, rfl⟩
theorem f8_ok (n : Int) (s : List UInt8) (hn : inR n) : HP Tryd.prog (GT t fz) 8 [i64 n, .str s] (fun r => r = .d (.bool true)) := by
  refine funP_ok Tryd.func8 rfl (by decide +kernel) (by simp [Tryd.ntmps8]) (veil fun E => ?_)
  obtain ⟨a, e, hp⟩ := parseR_tup s
  simp only [go_sem, Nat.reduceEqDiff, Nat.reduceLT, ↓reduceIte, Nat.reduceAdd, Nat.reduceMul, Nat.reduceLeDiff, Nat.reduceSub, Nat.reduceBEq, Int.reduceEq, Int.reduceLT, Int.reduceLE, Int.reduceToNat, Int.reduceAdd, Int.reduceSub, Int.reduceNeg, UInt8.reduceToNat]
  refine e_call E (f35_ok s) rfl rfl (by simp) ?_
  rintro _ rfl
  simp only [hp]
  simp only [go_sem, Nat.reduceEqDiff, Nat.reduceLT, ↓reduceIte, Nat.reduceAdd, Nat.reduceMul, Nat.reduceLeDiff, Nat.reduceSub, Nat.reduceBEq, Int.reduceEq, Int.reduceLT, Int.reduceLE, Int.reduceToNat, Int.reduceAdd, Int.reduceSub, Int.reduceNeg, UInt8.reduceToNat]
  refine e_call E (f36_ok s) rfl rfl (by simp) ?_
  rintro _ rfl
  simp only [hp]
  simp only [go_sem, Nat.reduceEqDiff, Nat.reduceLT, ↓reduceIte, Nat.reduceAdd, Nat.reduceMul, Nat.reduceLeDiff, Nat.reduceSub, Nat.reduceBEq, Int.reduceEq, Int.reduceLT, Int.reduceLE, Int.reduceToNat, Int.reduceAdd, Int.reduceSub, Int.reduceNeg, UInt8.reduceToNat]
  refine e_call E (f37_ok n hn) rfl rfl (by simp) ?_
  rintro _ rfl
  simp only [go_sem, Nat.reduceEqDiff, Nat.reduceLT, ↓reduceIte, Nat.reduceAdd, Nat.reduceMul, Nat.reduceLeDiff, Nat.reduceSub, Nat.reduceBEq, Int.reduceEq, Int.reduceLT, Int.reduceLE, Int.reduceToNat, Int.reduceAdd, Int.reduceSub, Int.reduceNeg, UInt8.reduceToNat]
  refine e_call E (f38_ok n hn) rfl rfl (by simp) ?_
  rintro _ rfl
  simp only [go_sem, Nat.reduceEqDiff, Nat.reduceLT, ↓reduceIte, Nat.reduceAdd, Nat.reduceMul, Nat.reduceLeDiff, Nat.reduceSub, Nat.reduceBEq, Int.reduceEq, Int.reduceLT, Int.reduceLE, Int.reduceToNat, Int.reduceAdd, Int.reduceSub, Int.reduceNeg, UInt8.reduceToNat]
  refine e_call E f16_ok rfl rfl (by simp) ?_
  rintro _ rfl
  simp only [go_sem, Nat.reduceEqDiff, Nat.reduceLT, ↓reduceIte, Nat.reduceAdd, Nat.reduceMul, Nat.reduceLeDiff, Nat.reduceSub, Nat.reduceBEq, Int.reduceEq, Int.reduceLT, Int.reduceLE, Int.reduceToNat, Int.reduceAdd, Int.reduceSub, Int.reduceNeg, UInt8.reduceToNat]
/-! What is printed is read. -/
theorem dec_step (u : Nat) (h : ¬ u < 10) : Lib.decDigits u = Lib.decDigits (u / 10) ++ [UInt8.ofNat (48 + u % 10)] := by
  rw [Lib.decDigits, dif_neg h]
theorem dec_one (u : Nat) (h : u < 10) : Lib.decDigits u = [UInt8.ofNat (48 + u)] := by
  rw [Lib.decDigits, dif_pos h]
theorem dig_of {d : Nat} (h : d < 10) : isDig (UInt8.ofNat (48 + d)) = true ∧ (UInt8.ofNat (48 + d)).toNat = 48 + d := by
  have e : (UInt8.ofNat (48 + d)).toNat = 48 + d := by rw [UInt8.toNat_ofNat']; omega
  refine ⟨?_, e⟩
  unfold isDig
  rw [e, decide_eq_true (by omega), decide_eq_true (by omega)]; rfl
theorem dec_val (u : Nat) : valD (Lib.decDigits u) = u ∧ (Lib.decDigits u).all isDig = true ∧ (u ≠ 0 → ¬ (Lib.decDigits u).head? = some 48) := by
  induction u using Nat.strongRecOn with
  | ind u ih =>
    by_cases h : u < 10
    · rw [dec_one u h]
      obtain ⟨h1, h2⟩ := dig_of h
      generalize UInt8.ofNat (48 + u) = c at *
      refine ⟨by simp [valD, h2], by simp [h1], fun h0 e => ?_⟩
      simp only [List.head?_cons, Option.some.injEq] at e
      rw [e] at h2
      have : (48 : UInt8).toNat = 48 := rfl
      omega
    · rw [dec_step u h]
      obtain ⟨h1, h2⟩ := dig_of (d := u % 10) (by omega)
      generalize UInt8.ofNat (48 + u % 10) = c at *
      obtain ⟨g1, g2, g3⟩ := ih (u / 10) (by omega)
      refine ⟨by rw [valD_snoc, g1, h2]; omega, by simp [g2, h1], fun h0 => ?_⟩
      obtain ⟨c, r, hc, _⟩ := dec_head (u / 10)
      have := g3 (by omega)
      rw [hc] at this ⊢
      simpa using this
theorem dec_ok (u : Nat) (h : u ≤ 9223372036854775808) : digOk (Lib.decDigits u) = true := by
  obtain ⟨g1, g2, g3⟩ := dec_val u
  obtain ⟨c, r, hc, _⟩ := dec_head u
  refine digOk_yes (by rw [hc]; simp) ?_ g2 (by rw [g1]; exact h)
  rintro ⟨h1, h2⟩
  by_cases h0 : u = 0
  · subst h0; rw [dec_one 0 (by omega)] at h1; simp at h1
  · exact g3 h0 h2
theorem parse_print {n : Int} (hn : inR n) : parseR (printZ n) = .tup [.d (i64 n), .d (i64 0)] := by
  obtain ⟨h1, h2⟩ := hn
  unfold printZ
  by_cases h : n < 0
  · rw [if_pos h]
    have hv := (dec_val n.natAbs).1
    have hok := dec_ok n.natAbs (by omega)
    have : parseOk true (Lib.decDigits n.natAbs) = true := by simp [parseOk, hok, hv]; omega
    simp [parseR, hasPre, parseR2, this, hv]
    omega
  · rw [if_neg h]
    have hv := (dec_val n.toNat).1
    have hok := dec_ok n.toNat (by omega)
    have : parseOk false (Lib.decDigits n.toNat) = true := by simp [parseOk, hok, hv]; omega
    have hp : hasPre (Lib.decDigits n.toNat) [126] = false := by
      obtain ⟨c, r, hc, g1, g2⟩ := dec_head n.toNat
      rw [hc]
      simp [hasPre]
      rintro rfl
      revert g2; decide
    simp [parseR, hp, parseR2, this, hv]
    omega
theorem quo_facts {a b : Int} (ha : inR a) (hb : inR b) (h0 : ¬ b = 0) : ∃ q r, w64 (a.tdiv b) = q ∧ w64 (a - w64 (q * b)) = r ∧ w64 (w64 (q * b) + r) = a ∧ (r = 0 ∨ (r < 0 ↔ a < 0)) ∧ (b = -1 → r = 0) := by
  obtain ⟨a1, a2⟩ := ha
  obtain ⟨b1, b2⟩ := hb
  by_cases hov : a = -9223372036854775808 ∧ b = -1
  · obtain ⟨rfl, rfl⟩ := hov
    exact ⟨_, _, rfl, rfl, by decide, by decide, by decide⟩
  · have e := Int.tmod_add_mul_tdiv a b
    have n1 := Int.natAbs_tdiv a b
    have n2 : (a.tmod b).natAbs = a.natAbs % b.natAbs := Int.natAbs_tmod a b
    have n3 : a.natAbs % b.natAbs ≤ a.natAbs := Nat.mod_le _ _
    have n4 : a.natAbs / b.natAbs ≤ a.natAbs := Nat.div_le_self _ _
    have s1 : 0 ≤ a → 0 ≤ a.tmod b := fun h => Int.tmod_nonneg b h
    have s2 : a ≤ 0 → a.tmod b ≤ 0 := fun h => by
      have := Int.tmod_nonneg b (a := -a) (by omega)
      rw [Int.neg_tmod] at this
      omega
    have hq : inR (a.tdiv b) := by
      have hn : (a.tdiv b).natAbs = a.natAbs / b.natAbs := n1
      by_cases hb1 : b = 1
      · subst hb1; rw [Int.tdiv_one]; exact ⟨a1, a2⟩
      by_cases hb2 : b = -1
      · subst hb2
        have : a.natAbs / (-1 : Int).natAbs = a.natAbs := by simp
        rw [this] at hn
        constructor <;> omega
      · have : a.natAbs / b.natAbs ≤ a.natAbs / 2 := Nat.div_le_div_left (by omega) (by omega)
        constructor <;> omega
    have hm : b * a.tdiv b = a - a.tmod b := by omega
    have hqb : inR (a.tdiv b * b) := by
      rw [Int.mul_comm, hm]
      constructor <;> omega
    refine ⟨a.tdiv b, a.tmod b, w64_in hq, ?_, ?_, ?_, ?_⟩
    · rw [w64_in hqb, Int.mul_comm, hm, w64_in (by constructor <;> omega)]; omega
    · rw [w64_in hqb, Int.mul_comm, hm, w64_in (by constructor <;> omega)]; omega
    · by_cases hz : a.tmod b = 0
      · exact .inl hz
      · exact .inr (by omega)
    · rintro rfl
      have : a.natAbs % (-1 : Int).natAbs = 0 := by simp [Nat.mod_one]
      omega
theorem f9_ok (a b : Int) (ha : inR a) (hb : inR b) : HP Tryd.prog (GT t fz) 9 [i64 a, i64 b] (fun r => r = .d (.bool true)) := by
  refine funP_ok Tryd.func9 rfl (by decide +kernel) (by simp [Tryd.ntmps9]) (veil fun E => ?_)
  simp only [go_sem, Nat.reduceEqDiff, Nat.reduceLT, ↓reduceIte, Nat.reduceAdd, Nat.reduceMul, Nat.reduceLeDiff, Nat.reduceSub, Nat.reduceBEq, Int.reduceEq, Int.reduceLT, Int.reduceLE, Int.reduceToNat, Int.reduceAdd, Int.reduceSub, Int.reduceNeg, UInt8.reduceToNat]
  refine e_call E f16_ok rfl rfl (by simp) ?_
  rintro _ rfl
  simp only [go_sem, Nat.reduceEqDiff, Nat.reduceLT, ↓reduceIte, Nat.reduceAdd, Nat.reduceMul, Nat.reduceLeDiff, Nat.reduceSub, Nat.reduceBEq, Int.reduceEq, Int.reduceLT, Int.reduceLE, Int.reduceToNat, Int.reduceAdd, Int.reduceSub, Int.reduceNeg, UInt8.reduceToNat]
  refine e_call E (f37_ok a ha) rfl rfl (by simp) ?_
  rintro _ rfl
  simp only [go_sem, Nat.reduceEqDiff, Nat.reduceLT, ↓reduceIte, Nat.reduceAdd, Nat.reduceMul, Nat.reduceLeDiff, Nat.reduceSub, Nat.reduceBEq, Int.reduceEq, Int.reduceLT, Int.reduceLE, Int.reduceToNat, Int.reduceAdd, Int.reduceSub, Int.reduceNeg, UInt8.reduceToNat]
  refine e_call E (f35_ok (printZ a)) rfl rfl (by simp) ?_
  rintro _ rfl
  simp only [parse_print ha]
  simp only [go_sem, Nat.reduceEqDiff, Nat.reduceLT, ↓reduceIte, Nat.reduceAdd, Nat.reduceMul, Nat.reduceLeDiff, Nat.reduceSub, Nat.reduceBEq, Int.reduceEq, Int.reduceLT, Int.reduceLE, Int.reduceToNat, Int.reduceAdd, Int.reduceSub, Int.reduceNeg, UInt8.reduceToNat]
  refine e_call E (f13_ok a b) rfl rfl (by simp) ?_
  rintro _ rfl
  simp only [go_sem, Nat.reduceEqDiff, Nat.reduceLT, ↓reduceIte, Nat.reduceAdd, Nat.reduceMul, Nat.reduceLeDiff, Nat.reduceSub, Nat.reduceBEq, Int.reduceEq, Int.reduceLT, Int.reduceLE, Int.reduceToNat, Int.reduceAdd, Int.reduceSub, Int.reduceNeg, UInt8.reduceToNat]
  refine e_call E (f14_ok (w64 (a + b)) b) rfl rfl (by simp) ?_
  rintro _ rfl
  have e1 : w64 (w64 (a + b) - b) = a := by
    obtain ⟨h1, h2⟩ := ha
    simp only [w64_def]
    repeat' split
    all_goals omega
  simp only [e1]
  simp only [go_sem, Nat.reduceEqDiff, Nat.reduceLT, ↓reduceIte, Nat.reduceAdd, Nat.reduceMul, Nat.reduceLeDiff, Nat.reduceSub, Nat.reduceBEq, Int.reduceEq, Int.reduceLT, Int.reduceLE, Int.reduceToNat, Int.reduceAdd, Int.reduceSub, Int.reduceNeg, UInt8.reduceToNat]
  refine e_call E (f12_ok a b) rfl rfl (by simp) ?_
  rintro _ rfl
  by_cases h0 : b = 0
  · simp only [divZ, divE, h0, if_true]
    simp only [go_sem, Nat.reduceEqDiff, Nat.reduceLT, ↓reduceIte, Nat.reduceAdd, Nat.reduceMul, Nat.reduceLeDiff, Nat.reduceSub, Nat.reduceBEq, Int.reduceEq, Int.reduceLT, Int.reduceLE, Int.reduceToNat, Int.reduceAdd, Int.reduceSub, Int.reduceNeg, UInt8.reduceToNat]
  obtain ⟨q, r, hq, hr, f1, f2, f3⟩ := quo_facts ha hb h0
  simp only [divZ, divE, h0, if_false, hq]
  simp only [go_sem, Nat.reduceEqDiff, Nat.reduceLT, ↓reduceIte, Nat.reduceAdd, Nat.reduceMul, Nat.reduceLeDiff, Nat.reduceSub, Nat.reduceBEq, Int.reduceEq, Int.reduceLT, Int.reduceLE, Int.reduceToNat, Int.reduceAdd, Int.reduceSub, Int.reduceNeg, UInt8.reduceToNat]
  refine e_call E (f15_ok q b) rfl rfl (by simp) ?_
  rintro _ rfl
  simp only [go_sem, Nat.reduceEqDiff, Nat.reduceLT, ↓reduceIte, Nat.reduceAdd, Nat.reduceMul, Nat.reduceLeDiff, Nat.reduceSub, Nat.reduceBEq, Int.reduceEq, Int.reduceLT, Int.reduceLE, Int.reduceToNat, Int.reduceAdd, Int.reduceSub, Int.reduceNeg, UInt8.reduceToNat]
  refine e_call E (f14_ok a (w64 (q * b))) rfl rfl (by simp) ?_
  rintro _ rfl
  simp only [hr]
  simp only [go_sem, Nat.reduceEqDiff, Nat.reduceLT, ↓reduceIte, Nat.reduceAdd, Nat.reduceMul, Nat.reduceLeDiff, Nat.reduceSub, Nat.reduceBEq, Int.reduceEq, Int.reduceLT, Int.reduceLE, Int.reduceToNat, Int.reduceAdd, Int.reduceSub, Int.reduceNeg, UInt8.reduceToNat]
  refine e_call E (f15_ok q b) rfl rfl (by simp) ?_
  rintro _ rfl
  simp only [go_sem, Nat.reduceEqDiff, Nat.reduceLT, ↓reduceIte, Nat.reduceAdd, Nat.reduceMul, Nat.reduceLeDiff, Nat.reduceSub, Nat.reduceBEq, Int.reduceEq, Int.reduceLT, Int.reduceLE, Int.reduceToNat, Int.reduceAdd, Int.reduceSub, Int.reduceNeg, UInt8.reduceToNat]
  refine e_call E (f13_ok (w64 (q * b)) r) rfl rfl (by simp) ?_
  rintro _ rfl
  simp only [f1]
  simp only [go_sem, Nat.reduceEqDiff, Nat.reduceLT, ↓reduceIte, Nat.reduceAdd, Nat.reduceMul, Nat.reduceLeDiff, Nat.reduceSub, Nat.reduceBEq, Int.reduceEq, Int.reduceLT, Int.reduceLE, Int.reduceToNat, Int.reduceAdd, Int.reduceSub, Int.reduceNeg, UInt8.reduceToNat]
  refine e_gifd E (fun h1 => ?_) (fun h1 => ?_) <;> simp only [go_sem, Nat.reduceEqDiff, Nat.reduceLT, ↓reduceIte, Nat.reduceAdd, Nat.reduceMul, Nat.reduceLeDiff, Nat.reduceSub, Nat.reduceBEq, Int.reduceEq, Int.reduceLT, Int.reduceLE, Int.reduceToNat, Int.reduceAdd, Int.reduceSub, Int.reduceNeg, UInt8.reduceToNat]
  · refine e_gifd E (fun h2 => ?_) (fun h2 => ?_) <;> simp only [go_sem, Nat.reduceEqDiff, Nat.reduceLT, ↓reduceIte, Nat.reduceAdd, Nat.reduceMul, Nat.reduceLeDiff, Nat.reduceSub, Nat.reduceBEq, Int.reduceEq, Int.reduceLT, Int.reduceLE, Int.reduceToNat, Int.reduceAdd, Int.reduceSub, Int.reduceNeg, UInt8.reduceToNat]
    simp [h1]
  · have f4 : (decide (r < 0) == decide (a < 0)) = true := by
      rcases f2 with f2 | f2
      · exact absurd f2 h1
      · simp [f2]
    simp only [f4]
    simp only [go_sem, Nat.reduceEqDiff, Nat.reduceLT, ↓reduceIte, Nat.reduceAdd, Nat.reduceMul, Nat.reduceLeDiff, Nat.reduceSub, Nat.reduceBEq, Int.reduceEq, Int.reduceLT, Int.reduceLE, Int.reduceToNat, Int.reduceAdd, Int.reduceSub, Int.reduceNeg, UInt8.reduceToNat]
    refine e_gifd E (fun h2 => ?_) (fun h2 => ?_) <;> simp only [go_sem, Nat.reduceEqDiff, Nat.reduceLT, ↓reduceIte, Nat.reduceAdd, Nat.reduceMul, Nat.reduceLeDiff, Nat.reduceSub, Nat.reduceBEq, Int.reduceEq, Int.reduceLT, Int.reduceLE, Int.reduceToNat, Int.reduceAdd, Int.reduceSub, Int.reduceNeg, UInt8.reduceToNat]
    exact absurd (f3 (Decidable.not_not.1 h2)) h1
end Go.Proofs.YtmplpdjddjiioaaDoor
