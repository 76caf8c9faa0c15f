/-
  Numbers as texts by the document's answer.
-/
import Derived.Test.YtmplpdjddjiioaaDoorU4
import Derived.Test.YtmplpdjddjiioaaDoorG6
set_option linter.all false
namespace Go.Proofs.YtmplpdjddjiioaaDoor
open Go.Ab
variable {t : TypeId} {fz : Nat × Nat}
/-- The digits of a number, none for 0. -/
def dd (u : Nat) : List UInt8 := if u = 0 then [] else Lib.decDigits u
theorem dd_step (u : Nat) (h : u ≠ 0) : dd u = dd (u / 10) ++ [UInt8.ofNat (48 + u % 10)] := by
  unfold dd
  rw [if_neg h, Lib.decDigits]
  by_cases h10 : u < 10
  · rw [dif_pos h10, if_pos (by omega), show u % 10 = u by omega]; rfl
  · rw [dif_neg h10, if_neg (by omega)]
theorem tmod10 (m : Int) : m.tmod 10 = if m < 0 then -((m.natAbs % 10 : Nat) : Int) else ((m.natAbs % 10 : Nat) : Int) := by
  cases m with
  | ofNat k => rw [if_neg (show ¬ Int.ofNat k < 0 from Int.not_lt.2 (Int.natCast_nonneg k))]; rfl
  | negSucc k => rw [if_pos (Int.negSucc_lt_zero k)]; rfl
theorem tdiv10 (m : Int) : m.tdiv 10 = if m < 0 then -((m.natAbs / 10 : Nat) : Int) else ((m.natAbs / 10 : Nat) : Int) := by
  cases m with
  | ofNat k => rw [if_neg (show ¬ Int.ofNat k < 0 from Int.not_lt.2 (Int.natCast_nonneg k))]; rfl
  | negSucc k => rw [if_pos (Int.negSucc_lt_zero k)]; rfl
theorem u8_dig (d : Nat) (h : d < 10) : IntKind.u8.wrap (w64 (48 + (d : Int))) = (((UInt8.ofNat (48 + d)).toNat : Nat) : Int) := by
  rw [UInt8.toNat_ofNat']
  simp only [IntKind.wrap, IntKind.bits, IntKind.signed, w64_def]
  split <;> simp <;> omega
theorem dig_in {m : Int} (hm : inR m) : inR (m.tdiv 10) ∧ w64 (m.tdiv 10) = m.tdiv 10 ∧ (m.tdiv 10).natAbs = m.natAbs / 10 := by
  obtain ⟨h1, h2⟩ := hm
  have h := tdiv10 m
  have h3 : inR (m.tdiv 10) := by
    rw [h]; constructor <;> split <;> omega
  refine ⟨h3, w64_in h3, ?_⟩
  rw [h]; split <;> omega
theorem neg_dig {m : Int} (h : m.tmod 10 < 0) : w64 (0 - m.tmod 10) = ((m.natAbs % 10 : Nat) : Int) := by
  have e := tmod10 m
  rw [w64_in (by constructor <;> rw [e] <;> split <;> omega), e]
  split at e <;> omega
theorem pos_dig {m : Int} (h : ¬ m.tmod 10 < 0) : m.tmod 10 = ((m.natAbs % 10 : Nat) : Int) := by
  have e := tmod10 m
  split at e <;> omega
theorem dd_len {m : Int} {acc : List UInt8} {n : Int} (hn : inR n) (h : dd m.natAbs ++ acc = dd n.natAbs) : acc.length ≤ 21 := by
  have h1 := congrArg List.length h
  rw [List.length_append] at h1
  have h2 := Lib.itoa_length_le n hn.1 hn.2
  have h3 : (dd n.natAbs).length ≤ (Lib.itoa n).length := by
    unfold dd Lib.itoa
    by_cases hz : n.natAbs = 0
    · rw [if_pos hz]; simp
    · rw [if_neg hz]
      by_cases h0 : n < 0
      · rw [if_pos h0]; simp
      · rw [if_neg h0, show n.natAbs = n.toNat by omega]; exact Nat.le_refl _
  omega
theorem f38_ok (n : Int) (hn : inR n) : HP Tryd.prog (GT t fz) 38 [i64 n] (fun r => r = .d (.str (printZ n))) := by
  refine funP_ok Tryd.func38 rfl (by decide +kernel) (by simp [Tryd.ntmps38]) (veil fun E => ?_)
  simp only [go_sem, Nat.reduceEqDiff, Nat.reduceLT, ↓reduceIte, Nat.reduceAdd, Nat.reduceMul, Nat.reduceLeDiff, Nat.reduceSub, Nat.reduceBEq, Int.reduceEq, Int.reduceLT, Int.reduceLE, Int.reduceToNat, Int.reduceAdd, Int.reduceSub, Int.reduceNeg, UInt8.reduceToNat]
  refine e_ifd E (fun h => ?_) (fun h => ?_) <;> simp only [go_sem, Nat.reduceEqDiff, Nat.reduceLT, ↓reduceIte, Nat.reduceAdd, Nat.reduceMul, Nat.reduceLeDiff, Nat.reduceSub, Nat.reduceBEq, Int.reduceEq, Int.reduceLT, Int.reduceLE, Int.reduceToNat, Int.reduceAdd, Int.reduceSub, Int.reduceNeg, UInt8.reduceToNat]
  · subst h
    rw [show printZ 0 = [48] by decide +kernel]
  refine loopP_e E (X := { x : Int × List UInt8 // dd x.1.natAbs ++ x.2 = dd n.natAbs ∧ inR x.1 }) (fun x => [(0, .d (i64 n)), (2, .d (.str [])), (3, .d (.str x.1.2)), (4, .d (i64 x.1.1))]) (fun x => x.1.1.natAbs) rfl ⟨(n, []), by simp, hn⟩ ?_ ?_
  · simp only [go_sem, Nat.reduceEqDiff, Nat.reduceLT, ↓reduceIte, Nat.reduceAdd, Nat.reduceMul, Nat.reduceLeDiff, Nat.reduceSub, Nat.reduceBEq, Int.reduceEq, Int.reduceLT, Int.reduceLE, Int.reduceToNat, Int.reduceAdd, Int.reduceSub, Int.reduceNeg, UInt8.reduceToNat]
  rintro ⟨⟨m, acc⟩, hacc, hm⟩ E'
  simp only [go_sem, Nat.reduceEqDiff, Nat.reduceLT, ↓reduceIte, Nat.reduceAdd, Nat.reduceMul, Nat.reduceLeDiff, Nat.reduceSub, Nat.reduceBEq, Int.reduceEq, Int.reduceLT, Int.reduceLE, Int.reduceToNat, Int.reduceAdd, Int.reduceSub, Int.reduceNeg, UInt8.reduceToNat]
  have hacc : dd m.natAbs ++ acc = dd n.natAbs := hacc
  have hm : inR m := hm
  obtain ⟨hi1, hi2, hi3⟩ := dig_in hm
  have hlen := dd_len hn hacc
  refine e_ifd E' (fun h0 => ?_) (fun h0 => ?_) <;> simp only [go_sem, Nat.reduceEqDiff, Nat.reduceLT, ↓reduceIte, Nat.reduceAdd, Nat.reduceMul, Nat.reduceLeDiff, Nat.reduceSub, Nat.reduceBEq, Int.reduceEq, Int.reduceLT, Int.reduceLE, Int.reduceToNat, Int.reduceAdd, Int.reduceSub, Int.reduceNeg, UInt8.reduceToNat]
  · have hstep : dd (m.tdiv 10).natAbs ++ ([UInt8.ofNat (48 + m.natAbs % 10)] ++ acc) = dd n.natAbs := by
      rw [hi3, ← List.append_assoc, ← dd_step _ (by omega)]; exact hacc
    have hdec : (m.tdiv 10).natAbs < m.natAbs := by omega
    refine e_ifd E' (fun h1 => ?_) (fun h1 => ?_) <;> simp only [go_sem, Nat.reduceEqDiff, Nat.reduceLT, ↓reduceIte, Nat.reduceAdd, Nat.reduceMul, Nat.reduceLeDiff, Nat.reduceSub, Nat.reduceBEq, Int.reduceEq, Int.reduceLT, Int.reduceLE, Int.reduceToNat, Int.reduceAdd, Int.reduceSub, Int.reduceNeg, UInt8.reduceToNat]
    · rw [e_stp_no]
      refine conv_bytes [UInt8.ofNat (48 + m.natAbs % 10)] (by rw [ti62]) (by rw [ti5]) (by rw [ti9]) ?_ (by simp) (veil fun E2 => ?_)
      · simp only [go_sem, Nat.reduceEqDiff, Nat.reduceLT, ↓reduceIte, Nat.reduceAdd, Nat.reduceMul, Nat.reduceLeDiff, Nat.reduceSub, Nat.reduceBEq, Int.reduceEq, Int.reduceLT, Int.reduceLE, Int.reduceToNat, Int.reduceAdd, Int.reduceSub, Int.reduceNeg, UInt8.reduceToNat]
        rw [neg_dig h1, u8_dig _ (by omega)]; rfl
      · simp only [go_sem, Nat.reduceEqDiff, Nat.reduceLT, ↓reduceIte, Nat.reduceAdd, Nat.reduceMul, Nat.reduceLeDiff, Nat.reduceSub, Nat.reduceBEq, Int.reduceEq, Int.reduceLT, Int.reduceLE, Int.reduceToNat, Int.reduceAdd, Int.reduceSub, Int.reduceNeg, UInt8.reduceToNat]
        exact ⟨by omega, ⟨(m.tdiv 10, [UInt8.ofNat (48 + m.natAbs % 10)] ++ acc), hstep, hi1⟩, hdec, rfl, by rw [hi2]⟩
    · rw [e_stp_no]
      refine conv_bytes [UInt8.ofNat (48 + m.natAbs % 10)] (by rw [ti62]) (by rw [ti5]) (by rw [ti9]) ?_ (by simp) (veil fun E2 => ?_)
      · simp only [go_sem, Nat.reduceEqDiff, Nat.reduceLT, ↓reduceIte, Nat.reduceAdd, Nat.reduceMul, Nat.reduceLeDiff, Nat.reduceSub, Nat.reduceBEq, Int.reduceEq, Int.reduceLT, Int.reduceLE, Int.reduceToNat, Int.reduceAdd, Int.reduceSub, Int.reduceNeg, UInt8.reduceToNat]
        rw [pos_dig h1, u8_dig _ (by omega)]; rfl
      · simp only [go_sem, Nat.reduceEqDiff, Nat.reduceLT, ↓reduceIte, Nat.reduceAdd, Nat.reduceMul, Nat.reduceLeDiff, Nat.reduceSub, Nat.reduceBEq, Int.reduceEq, Int.reduceLT, Int.reduceLE, Int.reduceToNat, Int.reduceAdd, Int.reduceSub, Int.reduceNeg, UInt8.reduceToNat]
        exact ⟨by omega, ⟨(m.tdiv 10, [UInt8.ofNat (48 + m.natAbs % 10)] ++ acc), hstep, hi1⟩, hdec, rfl, by rw [hi2]⟩
  · have hm0 : m = 0 := by omega
    subst hm0
    have hacc : acc = Lib.decDigits n.natAbs := by
      have : dd (0 : Int).natAbs ++ acc = dd n.natAbs := hacc
      simpa [dd, h] using this
    refine e_ifd E (fun h2 => ?_) (fun h2 => ?_) <;> simp only [go_sem, Nat.reduceEqDiff, Nat.reduceLT, ↓reduceIte, Nat.reduceAdd, Nat.reduceMul, Nat.reduceLeDiff, Nat.reduceSub, Nat.reduceBEq, Int.reduceEq, Int.reduceLT, Int.reduceLE, Int.reduceToNat, Int.reduceAdd, Int.reduceSub, Int.reduceNeg, UInt8.reduceToNat]
    · exact ⟨by omega, by simp [printZ, h2, hacc]⟩
    · simp [printZ, h2, hacc]
      rw [show n.natAbs = n.toNat by omega]
end Go.Proofs.YtmplpdjddjiioaaDoor
