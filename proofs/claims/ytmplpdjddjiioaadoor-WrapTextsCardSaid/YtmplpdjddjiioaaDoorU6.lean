/-
  Texts read as numbers: what both answers compute.
-/
import Derived.Test.YtmplpdjddjiioaaDoorU5
set_option linter.all false
namespace Go.Proofs.YtmplpdjddjiioaaDoor
open Go.Ab
variable {t : TypeId} {fz : Nat × Nat}
def isDig (c : UInt8) : Bool := decide (48 ≤ c.toNat) && decide (c.toNat ≤ 57)
/-- The number that digits stand for. -/
def valD (l : List UInt8) : Nat := l.foldl (fun v c => 10 * v + (c.toNat - 48)) 0
theorem valD_snoc (l : List UInt8) (c : UInt8) : valD (l ++ [c]) = 10 * valD l + (c.toNat - 48) := by simp [valD]
theorem take_snoc {l : List UInt8} {i : Nat} (h : i < l.length) : l.take (i + 1) = l.take i ++ [l[i]] := by simp
theorem valD_step {l : List UInt8} {i : Nat} (h : i < l.length) : valD (l.take (i + 1)) = 10 * valD (l.take i) + (l[i].toNat - 48) := by
  rw [take_snoc h, valD_snoc]
theorem valD_mono (l : List UInt8) (i : Nat) : valD (l.take i) ≤ valD l := by
  suffices h : ∀ r m : List UInt8, valD m ≤ valD (m ++ r) by
    have := h (l.drop i) (l.take i)
    rwa [List.take_append_drop] at this
  intro r
  induction r with
  | nil => intro m; simp
  | cons c r ih =>
    intro m
    have h1 := ih (m ++ [c])
    rw [valD_snoc, List.append_assoc] at h1
    have h2 : valD (m ++ c :: r) = valD (m ++ ([c] ++ r)) := rfl
    rw [h2]; omega
theorem valD_lt (l : List UInt8) (h : l.all isDig = true) : valD l < 10 ^ l.length := by
  suffices hh : ∀ i, i ≤ l.length → valD (l.take i) < 10 ^ i by
    have := hh l.length (Nat.le_refl _)
    rwa [List.take_length] at this
  intro i
  induction i with
  | zero => intro _; simp [valD]
  | succ i ih =>
    intro hi
    have h1 := ih (by omega)
    rw [valD_step (by omega), Nat.pow_succ]
    have hd := List.all_eq_true.1 h (l[i]) (List.getElem_mem _)
    simp only [isDig, Bool.and_eq_true, decide_eq_true_eq] at hd
    omega
theorem valD_ge (l : List UInt8) (h : l.all isDig = true) (h0 : ¬ l.head? = some 48) : l.length = 0 ∨ 10 ^ (l.length - 1) ≤ valD l := by
  cases l with
  | nil => exact .inl rfl
  | cons c r =>
    refine .inr ?_
    suffices hh : ∀ i, i ≤ r.length → 10 ^ i ≤ valD ((c :: r).take (i + 1)) by
      have := hh r.length (Nat.le_refl _)
      rwa [show r.length + 1 = (c :: r).length from rfl, List.take_length] at this
    intro i
    induction i with
    | zero =>
      intro _
      have hd := List.all_eq_true.1 h c List.mem_cons_self
      simp only [isDig, Bool.and_eq_true, decide_eq_true_eq] at hd
      have : c.toNat ≠ 48 := fun e => h0 (by
        have : c = 48 := UInt8.toNat_inj.1 (by rw [e]; rfl)
        subst this; rfl)
      simp [valD]; omega
    | succ i ih =>
      intro hi
      rw [valD_step (by simp; omega), Nat.pow_succ]
      have := ih (by omega)
      omega
/-- May such a text stand for a number up to 2^63? -/
def digOk (l : List UInt8) : Bool := !l.isEmpty && !(decide (1 < l.length) && l.head? == some 48) && l.all isDig && decide (valD l ≤ 9223372036854775808)
def parseOk (neg : Bool) (l : List UInt8) : Bool := digOk l && !(neg && decide (valD l = 0)) && !(!neg && decide (valD l = 9223372036854775808))
def parseR2 (neg : Bool) (l : List UInt8) : AV := .tup [.d (i64 (if parseOk neg l then (if neg then -(valD l : Int) else valD l) else 0)), .d (i64 (if parseOk neg l then 0 else 5))]
def parseR (s : List UInt8) : AV := if hasPre s [126] then parseR2 true (s.drop 1) else parseR2 false s
theorem digOk_len {l : List UInt8} (h : digOk l = true) : 1 ≤ l.length ∧ l.length ≤ 19 := by
  simp only [digOk, Bool.and_eq_true, Bool.not_eq_true', decide_eq_true_eq, Bool.and_eq_false_iff, decide_eq_false_iff_not, beq_eq_false_iff_ne] at h
  obtain ⟨⟨⟨h1, h2⟩, h3⟩, h4⟩ := h
  have h0 : l.length ≠ 0 := by
    intro e; rw [List.length_eq_zero_iff.1 e] at h1; simp at h1
  refine ⟨by omega, ?_⟩
  rcases h2 with h2 | h2
  · omega
  · rcases valD_ge l h3 h2 with h5 | h5
    · omega
    · apply Decidable.byContradiction; intro h6
      have : 10 ^ 19 ≤ 10 ^ (l.length - 1) := Nat.pow_le_pow_right (by omega) (by omega)
      omega
theorem digOk_at {l : List UInt8} {i : Nat} (hi : i < l.length) (h : isDig l[i] = false) : digOk l = false := by
  cases hd : digOk l with
  | false => rfl
  | true =>
    simp only [digOk, Bool.and_eq_true] at hd
    have := List.all_eq_true.1 hd.1.2 _ (List.getElem_mem hi)
    rw [h] at this; cases this
theorem digOk_nil : digOk [] = false := rfl
theorem digOk_lead {l : List UInt8} (h1 : 1 < l.length) (h : l.head? = some 48) : digOk l = false := by
  simp [digOk, h1, h]
theorem digOk_big {l : List UInt8} {i : Nat} (h : 9223372036854775808 < valD (l.take i)) : digOk l = false := by
  have := valD_mono l i
  have : ¬ valD l ≤ 9223372036854775808 := by omega
  simp [digOk, this]
theorem parseOk_no {neg : Bool} {l : List UInt8} (h : digOk l = false) : parseOk neg l = false := by simp [parseOk, h]
theorem parseR2_no {neg : Bool} {l : List UInt8} (h : parseOk neg l = false) : parseR2 neg l = .tup [.d (i64 0), .d (i64 5)] := by simp [parseR2, h]
theorem digOk_yes {l : List UInt8} (h0 : 1 ≤ l.length) (hlead : ¬ (1 < l.length ∧ l.head? = some 48)) (hall : l.all isDig = true) (hv : valD l ≤ 9223372036854775808) : digOk l = true := by
  simp only [digOk, Bool.and_eq_true, Bool.not_eq_true', decide_eq_true_eq, Bool.and_eq_false_iff, decide_eq_false_iff_not, beq_eq_false_iff_ne]
  refine ⟨⟨⟨?_, ?_⟩, hall⟩, hv⟩
  · cases l with
    | nil => simp at h0
    | cons c r => rfl
  · by_cases h : 1 < l.length
    · exact .inr fun e => hlead ⟨h, e⟩
    · exact .inl h
theorem pos_val {l : List UInt8} (h0 : 1 ≤ l.length) (hlead : ¬ (1 < l.length ∧ l.head? = some 48)) (hne : l ≠ [48]) (hall : l.all isDig = true) : 1 ≤ valD l := by
  have hh : ¬ l.head? = some 48 := by
    intro e
    have h1 : ¬ 1 < l.length := fun h => hlead ⟨h, e⟩
    cases l with
    | nil => simp at h0
    | cons c r =>
      cases r with
      | nil => simp at e; subst e; exact hne rfl
      | cons d r => simp at h1
  rcases valD_ge l hall hh with h | h
  · omega
  · exact Nat.le_trans (Nat.one_le_pow _ _ (by omega)) h
theorem all_step {l : List UInt8} {i : Nat} (hi : i < l.length) (hall : (l.take i).all isDig = true) (h : isDig l[i] = true) : (l.take (i + 1)).all isDig = true := by
  rw [take_snoc hi, List.all_append, hall]
  simp [h]
theorem pow19 {n : Nat} (h : n ≤ 19) : (10 : Nat) ^ n ≤ 10000000000000000000 := Nat.le_trans (Nat.pow_le_pow_right (by omega) h) (by decide)
theorem acc_step {l : List UInt8} {i : Nat} (hi : i < l.length) (hlen : l.length ≤ 19) (hall : (l.take i).all isDig = true) (h : isDig (l.getD i 0) = true) :
    u64 (u64 (10 * ((valD (l.take i) : Nat) : Int)) + u64 (IntKind.u8.wrap (((l.getD i 0).toNat : Nat) - 48))) = ((valD (l.take (i + 1)) : Nat) : Int) := by
  have hc : l.getD i 0 = l[i] := by simp [hi]
  rw [hc] at h ⊢
  have h1 := valD_lt _ (all_step hi hall h)
  rw [List.length_take] at h1
  have h2 := pow19 (n := min (i + 1) l.length) (by omega)
  rw [valD_step hi] at h1 ⊢
  simp only [isDig, Bool.and_eq_true, decide_eq_true_eq] at h
  have e : IntKind.u8.wrap (((l[i].toNat : Nat) : Int) - 48) = ((l[i].toNat - 48 : Nat) : Int) := by
    simp only [IntKind.wrap, IntKind.bits, IntKind.signed]
    simp
    omega
  rw [e]
  simp only [u64_def]
  omega
end Go.Proofs.YtmplpdjddjiioaaDoor
