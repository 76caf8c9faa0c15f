/-
  The layer 01: the program's wrap and its answer, walked. (with the parts that follow it)
-/
import Derived.Test.YtejpnabbmgpmaaaGreatWE
import Derived.Test.YtejpnabbmgpmaaaGreatWB
import Derived.Test.YtejpnabbmgpmaaaGreatWC
import Derived.Test.YtejpnabbmgpmaaaGreatWD
import Derived.Test.YtejpnabbmgpmaaaGreatWF
import Derived.Lib.ItoaLen
import Derived.Lib.Bytealg
set_option linter.unusedSimpArgs false
namespace Go.Proofs.YtejpnabbmgpmaaaGreat
open Go.Ab
def hasPre (s p : List UInt8) : Bool := decide (p.length ≤ s.length) && (s.take p.length == p)
theorem f304_ok {G} (s p : List UInt8) : HP Tryz.prog G 304 [.str s, .str p] (fun r => r = .d (.bool (hasPre s p))) := by
  refine funP_ok Tryz.func304 rfl (by decide +kernel) (by simp [Tryz.ntmps304]) (veil fun E => ?_)
  simp only [go_sem]
  refine e_gifd E (fun h => ?_) (fun h => ?_) <;> simp only [go_sem]
  · have hl : p.length ≤ s.length := by simpa using h
    refine ⟨by simpa using hl, ?_⟩
    simp [hasPre, hl, beq_l]
  · have hl : ¬ p.length ≤ s.length := by simpa using h
    simp [hasPre, hl]
theorem hasPre_le {s p : List UInt8} (h : hasPre s p = true) : p.length ≤ s.length := by
  simp only [hasPre, Bool.and_eq_true, decide_eq_true_eq] at h
  exact h.1
theorem f327_ok {G} (s p : List UInt8) : HP Tryz.prog G 327 [.str s, .str p] (fun r => r = .tup [.d (.str (if hasPre s p then s.drop p.length else s)), .d (.bool (hasPre s p))]) := by
  refine funP_ok Tryz.func327 rfl (by decide +kernel) (by simp [Tryz.ntmps327]) (veil fun E => ?_)
  simp only [go_sem]
  refine e_call E (f304_ok s p) rfl rfl (by simp) ?_
  rintro _ rfl
  simp only [go_sem]
  refine e_if E (fun h => ?_) (fun h => ?_) <;> simp only [go_sem]
  · have h : hasPre s p = false := by simpa using h
    simp [h]
  · have h : hasPre s p = true := by simpa using h
    have := hasPre_le h
    simp [h]
    refine ⟨by omega, ?_⟩
    rw [List.take_of_length_le]
    simp
theorem f297_ok {G} (s p : List UInt8) : HP Tryz.prog G 297 [.str s, .str p] (fun r => r = .tup [.d (.str (if hasPre s p then s.drop p.length else s)), .d (.bool (hasPre s p))]) := by
  refine funP_ok Tryz.func297 rfl (by decide +kernel) (by simp [Tryz.ntmps297]) (veil fun E => ?_)
  simp only [go_sem]
  refine e_call E (f327_ok s p) rfl rfl (by simp) ?_
  rintro _ rfl
  simp only [go_sem]
def dd (u : Nat) : List UInt8 := if u = 0 then [] else Lib.decDigits u
theorem tdiv10 (m : Int) : m.tdiv 10 = if m < 0 then -((m.natAbs / 10 : Nat) : Int) else ((m.natAbs / 10 : Nat) : Int) := by
  cases m with
  | ofNat k => rw [if_neg (show ¬ Int.ofNat k < 0 from Int.not_lt.2 (Int.natCast_nonneg k))]; rfl
  | negSucc k => rw [if_pos (Int.negSucc_lt_zero k)]; rfl
def isDig (c : UInt8) : Bool := decide (48 ≤ c.toNat) && decide (c.toNat ≤ 57)
def valD (l : List UInt8) : Nat := l.foldl (fun v c => 10 * v + (c.toNat - 48)) 0
theorem valD_snoc (l : List UInt8) (c : UInt8) : valD (l ++ [c]) = 10 * valD l + (c.toNat - 48) := by simp [valD]
theorem take_snoc {l : List UInt8} {i : Nat} (h : i < l.length) : l.take (i + 1) = l.take i ++ [l[i]] := by simp
theorem valD_step {l : List UInt8} {i : Nat} (h : i < l.length) : valD (l.take (i + 1)) = 10 * valD (l.take i) + (l[i].toNat - 48) := by
  rw [take_snoc h, valD_snoc]
theorem valD_mono (l : List UInt8) (i : Nat) : valD (l.take i) ≤ valD l := by
  suffices h : ∀ r m : List UInt8, valD m ≤ valD (m ++ r) by
    have := h (l.drop i) (l.take i)
    rwa [List.take_append_drop] at this
  intro r
  induction r with
  | nil => intro m; simp
  | cons c r ih =>
    intro m
    have h1 := ih (m ++ [c])
    rw [valD_snoc, List.append_assoc] at h1
    have h2 : valD (m ++ c :: r) = valD (m ++ ([c] ++ r)) := rfl
    rw [h2]; omega
def digOk (l : List UInt8) : Bool := !l.isEmpty && !(decide (1 < l.length) && l.head? == some 48) && l.all isDig && decide (valD l ≤ 9223372036854775808)
def parseOk (neg : Bool) (l : List UInt8) : Bool := digOk l && !(neg && decide (valD l = 0)) && !(!neg && decide (valD l = 9223372036854775808))
def parseR2 (neg : Bool) (l : List UInt8) : AV := .tup [.d (i64 (if parseOk neg l then (if neg then -(valD l : Int) else valD l) else 0)), .d (i64 (if parseOk neg l then 0 else 5))]
def parseR (s : List UInt8) : AV := if hasPre s [126] then parseR2 true (s.drop 1) else parseR2 false s
theorem digOk_at {l : List UInt8} {i : Nat} (hi : i < l.length) (h : isDig l[i] = false) : digOk l = false := by
  cases hd : digOk l with
  | false => rfl
  | true =>
    simp only [digOk, Bool.and_eq_true] at hd
    have := List.all_eq_true.1 hd.1.2 _ (List.getElem_mem hi)
    rw [h] at this; cases this
theorem digOk_lead {l : List UInt8} (h1 : 1 < l.length) (h : l.head? = some 48) : digOk l = false := by
  simp [digOk, h1, h]
theorem digOk_big {l : List UInt8} {i : Nat} (h : 9223372036854775808 < valD (l.take i)) : digOk l = false := by
  have := valD_mono l i
  have : ¬ valD l ≤ 9223372036854775808 := by omega
  simp [digOk, this]
theorem parseOk_no {neg : Bool} {l : List UInt8} (h : digOk l = false) : parseOk neg l = false := by simp [parseOk, h]
theorem parseR2_no {neg : Bool} {l : List UInt8} (h : parseOk neg l = false) : parseR2 neg l = .tup [.d (i64 0), .d (i64 5)] := by simp [parseR2, h]
theorem digOk_yes {l : List UInt8} (h0 : 1 ≤ l.length) (hlead : ¬ (1 < l.length ∧ l.head? = some 48)) (hall : l.all isDig = true) (hv : valD l ≤ 9223372036854775808) : digOk l = true := by
  simp only [digOk, Bool.and_eq_true, Bool.not_eq_true', decide_eq_true_eq, Bool.and_eq_false_iff, decide_eq_false_iff_not, beq_eq_false_iff_ne]
  refine ⟨⟨⟨?_, ?_⟩, hall⟩, hv⟩
  · cases l with
    | nil => simp at h0
    | cons c r => rfl
  · by_cases h : 1 < l.length
    · exact .inr fun e => hlead ⟨h, e⟩
    · exact .inl h
theorem all_step {l : List UInt8} {i : Nat} (hi : i < l.length) (hall : (l.take i).all isDig = true) (h : isDig l[i] = true) : (l.take (i + 1)).all isDig = true := by
  rw [take_snoc hi, List.all_append, hall]
  simp [h]
theorem u8_eq {c : UInt8} {n : Nat} (hn : n < 256) : ((c.toNat : Nat) : Int) = (n : Int) ↔ c = UInt8.ofNat n := by
  constructor
  · intro h
    apply UInt8.toNat_inj.1
    rw [UInt8.toNat_ofNat']
    omega
  · rintro rfl
    rw [UInt8.toNat_ofNat']
    omega
theorem isDig_lo {c : UInt8} (h : ((c.toNat : Nat) : Int) < 48) : isDig c = false := by
  unfold isDig; rw [decide_eq_false (by omega)]; rfl
theorem isDig_hi {c : UInt8} (h : 57 < ((c.toNat : Nat) : Int)) : isDig c = false := by
  unfold isDig; rw [decide_eq_false (p := c.toNat ≤ 57) (by omega), Bool.and_false]
theorem isDig_ok {c : UInt8} (h1 : ¬ ((c.toNat : Nat) : Int) < 48) (h2 : ¬ 57 < ((c.toNat : Nat) : Int)) : isDig c = true := by
  unfold isDig; rw [decide_eq_true (by omega), decide_eq_true (by omega)]; rfl
theorem head_getD {l : List UInt8} (h : 1 ≤ l.length) : l.head? = some (l.getD 0 0) := by
  cases l with
  | nil => simp at h
  | cons c r => rfl
theorem decode_hi (s : ByteArray) (pos : Nat) (hb : 128 ≤ (s.get! (pos + 0)).toNat) : 58 ≤ (Utf8.decode s pos).1 := by
  unfold Utf8.decode
  simp only [Utf8.runeError]
  repeat' split
  all_goals (try simp only [Bool.and_eq_true, decide_eq_true_eq] at *)
  all_goals omega
theorem rune_cases {l : List UInt8} {pos : Nat} (h : pos < l.length) : (Utf8.decode ⟨l.toArray⟩ pos = (l[pos].toNat, 1)) ∨ (58 ≤ (Utf8.decode ⟨l.toArray⟩ pos).1 ∧ isDig l[pos] = false) := by
  have hs : pos < (⟨l.toArray⟩ : ByteArray).size := by simpa [ByteArray.size] using h
  have e : (⟨l.toArray⟩ : ByteArray)[pos]'hs = l[pos] := by rfl
  have e2 : (⟨l.toArray⟩ : ByteArray).get! (pos + 0) = l[pos] := by
    show (⟨l.toArray⟩ : ByteArray).get! pos = _
    simp [ByteArray.get!, getElem!_pos, h]
  by_cases ha : l[pos].toNat < 128
  · have := decode_ascii ⟨l.toArray⟩ pos hs (by rw [e]; exact ha)
    rw [e] at this
    exact .inl this
  · refine .inr ⟨decode_hi _ _ (by rw [e2]; omega), isDig_hi (by omega)⟩
def digR (l : List UInt8) : AV := .tup [.d (i64 (if digOk l then -(valD l : Int) else 0)), .d (i64 (if digOk l then 0 else 5))]
theorem digR_no {l : List UInt8} (h : digOk l = false) : digR l = .tup [.d (i64 0), .d (i64 5)] := by simp [digR, h]
theorem dig32 {c : UInt8} (h : isDig c = true) : w64 (IntKind.i32.wrap (((c.toNat : Nat) : Int) - 48)) = ((c.toNat - 48 : Nat) : Int) := by
  simp only [isDig, Bool.and_eq_true, decide_eq_true_eq] at h
  have e : IntKind.i32.wrap (((c.toNat : Nat) : Int) - 48) = ((c.toNat - 48 : Nat) : Int) := by
    simp only [IntKind.wrap, IntKind.bits, IntKind.signed]
    simp
    split <;> omega
  rw [e, w64_in ⟨by omega, by omega⟩]
theorem lim_eq {d : Nat} (h : d ≤ 9) : w64 ((w64 (-9223372036854775808 + ((d : Nat) : Int))).tdiv 10) = -(((9223372036854775808 - d) / 10 : Nat) : Int) := by
  have h1 : w64 (-9223372036854775808 + ((d : Nat) : Int)) = -9223372036854775808 + ((d : Nat) : Int) := w64_in ⟨by omega, by omega⟩
  rw [h1]
  have h2 := tdiv10 (-9223372036854775808 + ((d : Nat) : Int))
  rw [if_pos (by omega)] at h2
  rw [h2, w64_in ⟨by omega, by omega⟩]
  omega
theorem f298_ok {G} (l : List UInt8) : HP Tryz.prog G 298 [.str l] (fun r => r = digR l) := by
  refine funP_ok Tryz.func298 rfl (by decide +kernel) (by simp [Tryz.ntmps298]) (veil fun E => ?_)
  simp only [go_sem]
  refine e_gif E (fun h0 => ?_) (fun h0 => ?_) <;> simp only [go_sem]
  · have : l = [] := by simpa using h0
    subst this; rfl
  have h0 : 1 ≤ l.length := by
    cases l with
    | nil => simp at h0
    | cons c r => simp
  refine e_gifd E (fun h1 => ?_) (fun h1 => ?_) <;> simp only [go_sem]
  · refine ⟨by omega, ?_⟩
    refine e_ifd E (fun h4 => ?_) (fun h4 => ?_) <;> simp only [go_sem]
    · have : digOk l = false := digOk_lead (by omega) (by rw [head_getD (by omega)]; congr 1; exact (u8_eq (n := 48) (by omega)).1 h4)
      rw [digR_no this]
    · refine e_ranges E l (by rw [ti9]) rfl (by simp) (by simp [mk_used]) ?_
      simp only [go_sem]
      refine loopO_e E (X := { i : Nat // i ≤ l.length ∧ (l.take i).all isDig = true ∧ valD (l.take i) ≤ 9223372036854775808 }) (fun x => [(0, .d (.str l)), (4, .d (i64 (-(valD (l.take x.1) : Nat)))), (21, .it [21])]) (fun x => [([21], .siter l x.1)]) [21] (fun x => l.length - x.1) ⟨0, by simp, by simp, by simp [valD]⟩ ?_ ?_
      · simp only [go_sem]
        simp [valD]
      rintro ⟨i, hi, hall, hvi⟩ E0
      refine hideQ E0 fun Q' hQ E' => ?_
      simp only at hi hall hvi ⊢
      simp only [go_sem]
      refine e_nexts E' [21] l i rfl rfl (by simp) (fun hi' => ?_) (fun hi' => ?_) <;> simp only [go_sem]
      · rcases rune_cases hi' with e | ⟨e1, e2⟩
        · rw [e]
          refine e_gifd E' (fun h7 => ?_) (fun h7 => ?_) <;> simp only [go_sem]
          · rw [hQ]
            simp only [go_sem]
            rw [digR_no (digOk_at hi' (isDig_lo h7))]
          refine e_ifd E' (fun h8 => ?_) (fun h8 => ?_) <;> simp only [go_sem]
          · rw [hQ]
            simp only [go_sem]
            rw [digR_no (digOk_at hi' (isDig_hi h8))]
          have hd := isDig_ok h7 h8
          have hdv : l[i].toNat - 48 ≤ 9 := by
            simp only [isDig, Bool.and_eq_true, decide_eq_true_eq] at hd
            omega
          rw [dig32 hd, lim_eq hdv]
          refine e_ifd E' (fun h9 => ?_) (fun h9 => ?_) <;> simp only [go_sem]
          · rw [hQ]
            simp only [go_sem]
            rw [digR_no (digOk_big (i := i + 1) (by rw [valD_step hi']; omega))]
          · rw [hQ]
            simp only [go_sem]
            have hle : 10 * valD (l.take i) + (l[i].toNat - 48) ≤ 9223372036854775808 := by omega
            refine ⟨⟨i + 1, by omega, all_step hi' hall hd, by rw [valD_step hi']; exact hle⟩, by show l.length - (i + 1) < _; omega, ?_, rfl⟩
            show AV.d (D.int IntKind.i64 _) = AV.d (i64 (-((valD (l.take (i + 1)) : Nat) : Int)))
            rw [valD_step hi']
            congr 2
            simp only [w64_def]
            repeat' split
            all_goals omega
        · refine e_gifd E' (fun h7 => ?_) (fun h7 => ?_) <;> simp only [go_sem]
          · omega
          refine e_ifd E' (fun h8 => ?_) (fun h8 => ?_) <;> simp only [go_sem]
          · rw [hQ]
            simp only [go_sem]
            rw [digR_no (digOk_at hi' e2)]
          · omega
      · rw [hQ]
        simp only [go_sem]
        have hil : i = l.length := by omega
        subst hil
        rw [List.take_length] at hall hvi ⊢
        have hlead : ¬ (1 < l.length ∧ l.head? = some 48) := by
          rintro ⟨g1, g2⟩
          first
            | exact h4 ((u8_eq (n := 48) (by omega)).2 (by rw [head_getD (by omega)] at g2; exact Option.some.inj g2))
            | omega
        have hok := digOk_yes h0 hlead hall hvi
        simp [digR, hok]
  · refine e_ranges E l (by rw [ti9]) rfl (by simp) (by simp [mk_used]) ?_
    simp only [go_sem]
    refine loopO_e E (X := { i : Nat // i ≤ l.length ∧ (l.take i).all isDig = true ∧ valD (l.take i) ≤ 9223372036854775808 }) (fun x => [(0, .d (.str l)), (4, .d (i64 (-(valD (l.take x.1) : Nat)))), (21, .it [21])]) (fun x => [([21], .siter l x.1)]) [21] (fun x => l.length - x.1) ⟨0, by simp, by simp, by simp [valD]⟩ ?_ ?_
    · simp only [go_sem]
      simp [valD]
    rintro ⟨i, hi, hall, hvi⟩ E0
    refine hideQ E0 fun Q' hQ E' => ?_
    simp only at hi hall hvi ⊢
    simp only [go_sem]
    refine e_nexts E' [21] l i rfl rfl (by simp) (fun hi' => ?_) (fun hi' => ?_) <;> simp only [go_sem]
    · rcases rune_cases hi' with e | ⟨e1, e2⟩
      · rw [e]
        refine e_gifd E' (fun h7 => ?_) (fun h7 => ?_) <;> simp only [go_sem]
        · rw [hQ]
          simp only [go_sem]
          rw [digR_no (digOk_at hi' (isDig_lo h7))]
        refine e_ifd E' (fun h8 => ?_) (fun h8 => ?_) <;> simp only [go_sem]
        · rw [hQ]
          simp only [go_sem]
          rw [digR_no (digOk_at hi' (isDig_hi h8))]
        have hd := isDig_ok h7 h8
        have hdv : l[i].toNat - 48 ≤ 9 := by
          simp only [isDig, Bool.and_eq_true, decide_eq_true_eq] at hd
          omega
        rw [dig32 hd, lim_eq hdv]
        refine e_ifd E' (fun h9 => ?_) (fun h9 => ?_) <;> simp only [go_sem]
        · rw [hQ]
          simp only [go_sem]
          rw [digR_no (digOk_big (i := i + 1) (by rw [valD_step hi']; omega))]
        · rw [hQ]
          simp only [go_sem]
          have hle : 10 * valD (l.take i) + (l[i].toNat - 48) ≤ 9223372036854775808 := by omega
          refine ⟨⟨i + 1, by omega, all_step hi' hall hd, by rw [valD_step hi']; exact hle⟩, by show l.length - (i + 1) < _; omega, ?_, rfl⟩
          show AV.d (D.int IntKind.i64 _) = AV.d (i64 (-((valD (l.take (i + 1)) : Nat) : Int)))
          rw [valD_step hi']
          congr 2
          simp only [w64_def]
          repeat' split
          all_goals omega
      · refine e_gifd E' (fun h7 => ?_) (fun h7 => ?_) <;> simp only [go_sem]
        · omega
        refine e_ifd E' (fun h8 => ?_) (fun h8 => ?_) <;> simp only [go_sem]
        · rw [hQ]
          simp only [go_sem]
          rw [digR_no (digOk_at hi' e2)]
        · omega
    · rw [hQ]
      simp only [go_sem]
      have hil : i = l.length := by omega
      subst hil
      rw [List.take_length] at hall hvi ⊢
      have hlead : ¬ (1 < l.length ∧ l.head? = some 48) := by
        rintro ⟨g1, g2⟩
        first
          | exact h4 ((u8_eq (n := 48) (by omega)).2 (by rw [head_getD (by omega)] at g2; exact Option.some.inj g2))
          | omega
      have hok := digOk_yes h0 hlead hall hvi
      simp [digR, hok]
theorem digOk_le {l : List UInt8} (h : digOk l = true) : valD l ≤ 9223372036854775808 := by
  simp only [digOk, Bool.and_eq_true, decide_eq_true_eq] at h
  exact h.2
theorem neg_zero {l : List UInt8} (h : valD l = 0) : parseR2 true l = .tup [.d (i64 0), .d (i64 5)] := parseR2_no (by simp [parseOk, h])
theorem neg_some {l : List UInt8} (hd : digOk l = true) (h : valD l ≠ 0) : parseR2 true l = .tup [.d (i64 (-(valD l : Int))), .d (i64 0)] := by
  have : parseOk true l = true := by simp [parseOk, hd, h]
  simp [parseR2, this]
theorem f267_t {G} (s : List UInt8) (hp : hasPre s [126] = true) : HP Tryz.prog G 267 [.str s] (fun r => r = parseR2 true (s.drop 1)) := by
  refine funP_ok Tryz.func267 rfl (by decide +kernel) (by simp [Tryz.ntmps267]) (veil fun E => ?_)
  simp only [go_sem]
  refine e_call E (f297_ok s [126]) rfl rfl (by simp) ?_
  rintro _ rfl
  simp only [hp, List.length_cons, List.length_nil]
  simp only [go_sem]
  refine e_call E (f298_ok (s.drop 1)) rfl rfl (by simp) ?_
  rintro _ rfl
  simp only [digR]
  by_cases hd : digOk (s.drop 1) = true
  · have hle := digOk_le hd
    simp only [hd, if_true]
    simp only [go_sem]
    refine e_gifd E (fun h1 => ?_) (fun h1 => ?_) <;> simp only [go_sem]
    · rw [neg_zero (by omega)]
    · rw [neg_some hd (by omega)]
  · simp only [hd, if_false]
    simp only [go_sem]
    rw [parseR2_no (parseOk_no (by simpa using hd))]
theorem f267_f {G} (s : List UInt8) (hp : hasPre s [126] = false) : HP Tryz.prog G 267 [.str s] (fun r => r = parseR2 false s) := by
  refine funP_ok Tryz.func267 rfl (by decide +kernel) (by simp [Tryz.ntmps267]) (veil fun E => ?_)
  simp only [go_sem]
  refine e_call E (f297_ok s [126]) rfl rfl (by simp) ?_
  rintro _ rfl
  simp only [hp, List.length_cons, List.length_nil]
  simp only [go_sem]
  refine e_call E (f298_ok s) rfl rfl (by simp) ?_
  rintro _ rfl
  simp only [digR]
  by_cases hd : digOk s = true
  · have hle := digOk_le hd
    simp only [hd, if_true]
    simp only [go_sem]
    refine e_ifd E (fun h1 => ?_) (fun h1 => ?_) <;> simp only [go_sem]
    · have : parseOk false s = false := by simp [parseOk]; intro _; omega
      rw [parseR2_no this]
    · have : parseOk false s = true := by simp [parseOk, hd]; omega
      simp [parseR2, this]
      rw [w64_in ⟨by omega, by omega⟩]
  · simp only [hd, if_false]
    simp only [go_sem]
    rw [parseR2_no (parseOk_no (by simpa using hd))]
theorem f267_ok {G} (s : List UInt8) : HP Tryz.prog G 267 [.str s] (fun r => r = parseR s) := by
  unfold parseR
  cases hp : hasPre s [126] with
  | true => exact f267_t s hp
  | false => exact f267_f s hp
def bld0 : List (Name × Ob) := [([0], .boxT (some 316) [.d .nilp, .d .nils])]
def bldM (l : List UInt8) : List (Name × Ob) := [([0], .boxT (some 316) [.at [0] 0, .vw [2] 0 l.length]), ([2], .arrT (some 5) none (l.map byD))]
def bldL (l : List UInt8) : List (Name × Ob) := [([0], .boxT (some 316) [.at [0] 0, .vw [1] 0 l.length]), ([1], .arrT (some 5) none (l.map byD))]
theorem noesc (v : Value) (w : World) : (callFunc 339 #[v]).run Tryz.prog w = .ok (.value v) w := by
  rw [run_callFunc_extern Tryz.func339 (by kernel_rfl) (by kernel_rfl) (by kernel_rfl) (e := Extern.AbiNoEscape.same) (by kernel_rfl)]
  rw [Lib.run_noEscape]
  rfl
theorem ti349 : (Tryz.prog.ti 349).k = .oth := by kernel_rfl
theorem u349 : Tryz.prog.underlying 349 = some .unsafePointer := by kernel_rfl
theorem f328_new {G} : HCall Tryz.prog G 328 [.at [0] 0] [([0], .boxT (some 316) [.d .nilp, .vw [1] 0 0]), ([1], .arrT (some 5) none [])] [0, 1] (fun r hp' => r = .tup [] ∧ hp' = [([0], .boxT (some 316) [.at [0] 0, .vw [1] 0 0]), ([1], .arrT (some 5) none [])]) := by
  refine funO_ok Tryz.func328 rfl (by decide +kernel) (by simp [Tryz.ntmps328]) (veil fun E => ?_)
  simp only [go_sem]
  refine e_pnil E (e := 316) true (by rw [ti314]) (by simp only [go_sem]) rfl ?_
  simp only [go_sem]
  refine e_toU E (e := 316) [0] 0 316 [.d .nilp, .vw [1] 0 0] (by rw [ti314]) u349 (by kernel_rfl) (by simp only [go_sem]) rfl rfl (by decide) ?_
  simp only [go_sem]
  refine e_noesc E 339 (.at [0] 0) noesc (by simp only [go_sem]) rfl rfl ?_
  simp only [go_sem]
  simp only [ti349]
  simp only [go_sem]
  refine e_ofU E (e := 316) [0] 0 316 [.d .nilp, .vw [1] 0 0] (by rw [ti314]) u349 (by kernel_rfl) (by simp only [go_sem]) rfl rfl 2 rfl (by kernel_rfl) ?_
  simp only [go_sem]
  refine ⟨_, _, [0, 1], id, ⟨rfl, rfl⟩, ?_⟩
  simp only [go_sem]
theorem f328_old {G} (l : List UInt8) : HCall Tryz.prog G 328 [.at [0] 0] (bldL l) [0, 1] (fun r hp' => r = .tup [] ∧ hp' = bldL l) := by
  unfold bldL
  refine funO_ok Tryz.func328 rfl (by decide +kernel) (by simp [Tryz.ntmps328]) (veil fun E => ?_)
  simp only [go_sem]
  refine e_pnil E (e := 316) false (by rw [ti314]) (by simp only [go_sem]) rfl ?_
  simp only [go_sem]
  refine e_pself E (e := 316) [0] 0 (by rw [ti314]) (by kernel_rfl) (by simp only [go_sem]) rfl rfl rfl ?_
  simp only [go_sem]
  refine ⟨_, _, [0, 1], id, ⟨rfl, rfl⟩, ?_⟩
  simp only [go_sem]
theorem f302_new {G} (c : UInt8) : HCall Tryz.prog G 302 [.at [0] 0, .d (byD c)] bld0 [0] (fun r hp' => r = .d .nili ∧ hp' = bldM [c]) := by
  have h0 := f328_new (G := G)
  unfold bld0 bldM byD
  refine funO_ok Tryz.func302 rfl (by decide +kernel) (by simp [Tryz.ntmps302]) (veil fun E => ?_)
  simp only [go_sem]
  refine e_thawT E [0] 1 1 (some 316) (some 5) none [.d .nilp, .d .nils] rfl rfl (by rw [mk_used]; decide) ?_
  refine e_callO E [.at [0] 0] [([0], .boxT (some 316) [.d .nilp, .vw [1] 0 0]), ([1], .arrT (some 5) none [])] [0, 1] h0 rfl rfl ⟨by simp only [go_sem], by show ¬ _ ∈ [1, 0]; decide⟩ rfl (by simp only [go_sem]) (by simp only [go_sem]) ?_
  rintro _ _ ⟨rfl, rfl⟩
  simp only [go_sem]
  refine e_appendT E (e := 5) (some 5) [1] [13] [] [.int .u8 (c.toNat : Nat)] (by rw [ti261]) (by rw [ti5]; rfl) (by rw [ti5]; rfl) (by rw [ti5]; rfl) rfl ⟨by simp only [go_sem], by rw [mk_used]; decide⟩ rfl rfl rfl rfl (by rw [ti5]; simp [TI.by1]) ?_
  simp only [go_sem]
  refine ⟨_, _, [0, 1, 2], tau [([2], [14])], ⟨rfl, rfl⟩, ?_⟩
  simp only [go_sem]
theorem f302_old {G} (l : List UInt8) (c : UInt8) (hl : l.length ≤ 1000000) : HCall Tryz.prog G 302 [.at [0] 0, .d (byD c)] (bldL l) [0, 1] (fun r hp' => r = .d .nili ∧ hp' = bldM (l ++ [c])) := by
  have h0 := f328_old (G := G) l
  unfold bldL at *
  unfold bldM
  refine funO_ok Tryz.func302 rfl (by decide +kernel) (by simp [Tryz.ntmps302]) (veil fun E => ?_)
  simp only [go_sem]
  refine e_callO E [.at [0] 0] [([0], .boxT (some 316) [.at [0] 0, .vw [1] 0 l.length]), ([1], .arrT (some 5) none (l.map byD))] [0, 1] h0 rfl rfl ⟨by simp only [go_sem], by rw [mk_used]; decide⟩ rfl (by simp only [go_sem]) (by simp only [go_sem]) ?_
  rintro _ _ ⟨rfl, rfl⟩
  simp only [go_sem]
  rw [show byD c = .int .u8 (c.toNat : Nat) from rfl]
  simp only [go_sem]
  refine ⟨Nat.le_refl _, ?_⟩
  have hlm : (l.map byD).length = l.length := by simp
  refine e_appendT E (d := 14) (e := 5) (some 5) [1] [13] (l.map byD) [.int .u8 (c.toNat : Nat)] (by rw [ti261]) (by rw [ti5]; rfl) (by rw [ti5]; rfl) (by rw [ti5]; rfl) rfl ⟨by simp only [go_sem], by rw [mk_used]; decide⟩ (by rw [hlm]; rfl) rfl rfl rfl (by rw [ti5, hlm]; simp [TI.by1]; omega) ?_
  rw [hlm, show l.map byD ++ [.int .u8 (c.toNat : Nat)] = (l ++ [c]).map byD by simp [byD]]
  simp only [go_sem]
  refine ⟨_, _, [0, 1, 2], tau [([2], [14])], ⟨rfl, rfl⟩, ?_⟩
  rw [show (l ++ [c]).length = l.length + 1 by simp]
  simp only [go_sem]
theorem f299_new {G} : HCall Tryz.prog G 299 [.at [0] 0] bld0 [0] (fun r hp' => r = .d (i64 0) ∧ hp' = bld0) := by
  unfold bld0
  refine funO_ok Tryz.func299 rfl (by decide +kernel) (by simp [Tryz.ntmps299]) (veil fun E => ?_)
  simp only [go_sem]
  refine ⟨_, _, [0], id, ⟨rfl, rfl⟩, ?_⟩
  simp only [go_sem]
theorem f299_old {G} (l : List UInt8) : HCall Tryz.prog G 299 [.at [0] 0] (bldL l) [0, 1] (fun r hp' => r = .d (i64 l.length) ∧ hp' = bldL l) := by
  unfold bldL
  refine funO_ok Tryz.func299 rfl (by decide +kernel) (by simp [Tryz.ntmps299]) (veil fun E => ?_)
  simp only [go_sem]
  refine ⟨_, _, [0, 1], id, ⟨rfl, rfl⟩, ?_⟩
  simp only [go_sem]
theorem f300_new {G} : HCall Tryz.prog G 300 [.at [0] 0] bld0 [0] (fun r hp' => r = .d (.str []) ∧ hp' = bld0) := by
  unfold bld0
  refine funO_ok Tryz.func300 rfl (by decide +kernel) (by simp [Tryz.ntmps300]) (veil fun E => ?_)
  simp only [go_sem]
  refine region_xvt 10 mixed E (by simp only [List.take_succ_cons, List.take_zero]; exact rfl) (by simp only [List.drop_succ_cons, List.drop_zero]; exact rfl) rfl rfl (by decide +kernel) fun X => ?_
  simp only [go_sem]
  refine x_nilc X (d := 4) [0] 0 (some 316) [.d .nilp, .d .nils] (by simp only [go_sem]) rfl rfl ?_
  simp only [go_sem]
  refine x_sldN X (d := 7) (by simp only [go_sem]) rfl ?_
  simp only [go_sem]
  refine x_nilc X (d := 9) [0] 0 (some 316) [.d .nilp, .d .nils] (by simp only [go_sem]) rfl rfl ?_
  simp only [go_sem]
  refine ⟨by decide +kernel, ?_⟩
  refine e_ustr0 E (by simp only [go_sem]) rfl rfl ?_
  simp only [go_sem]
  refine ⟨_, _, [0], id, ⟨rfl, rfl⟩, ?_⟩
  simp only [go_sem]
theorem cells5 : Tryz.prog.cellsOf 5 = 1 := by kernel_rfl
theorem u341 : Tryz.prog.underlying 341 = some (.pointer 5) := by kernel_rfl
theorem f300_old {G} (l : List UInt8) (h0 : l ≠ []) (hl : l.length ≤ 1000000) : HCall Tryz.prog G 300 [.at [0] 0] (bldL l) [0, 1] (fun r hp' => r = .d (.str l) ∧ hp' = []) := by
  unfold bldL
  refine funO_ok Tryz.func300 rfl (by decide +kernel) (by simp [Tryz.ntmps300]) (veil fun E => ?_)
  simp only [go_sem]
  refine region_xvt 10 mixed E (by simp only [List.take_succ_cons, List.take_zero]; exact rfl) (by simp only [List.drop_succ_cons, List.drop_zero]; exact rfl) rfl rfl (by decide +kernel) fun X => ?_
  simp only [go_sem]
  refine x_nilc X (d := 4) [0] 0 (some 316) [.at [0] 0, .vw [1] 0 l.length] (by simp only [go_sem]) rfl rfl ?_
  simp only [go_sem]
  refine x_sld X (d := 7) [1] (some 5) none (l.map byD) l.length (by simp only [go_sem]) rfl rfl (List.length_pos_iff.2 h0) ?_
  simp only [go_sem]
  refine x_nilc X (d := 9) [0] 0 (some 316) [.at [0] 0, .vw [1] 0 l.length] (by simp only [go_sem]) rfl rfl ?_
  simp only [go_sem]
  refine ⟨by decide +kernel, ?_⟩
  refine e_ustr E (e := 5) [1] l (by simp only [go_sem]) u341 cells5 h0 (by omega) rfl rfl rfl ?_
  simp only [go_sem]
  refine ⟨_, _, [0, 1], id, ⟨rfl, rfl⟩, ?_⟩
  simp only [go_sem]
structure Tok where
  k : Int
  s : List UInt8
  n : Int
  pos : Int
  deriving Inhabited, DecidableEq
structure Fnd where
  t : Tok
  n : Nat
  e : Int
  deriving DecidableEq
def noT : Tok := ⟨0, [], 0, 0⟩
def badF (e : Int) : Fnd := ⟨noT, 0, e⟩
def tokD (t : Tok) : D := .agg [i64 t.k, .str t.s, i64 t.n, i64 t.pos]
def fndD (f : Fnd) : D := .agg [i64 f.t.k, .str f.t.s, i64 f.t.n, i64 f.t.pos, i64 f.n, i64 f.e]
def plainB (c : UInt8) : Bool := decide (32 ≤ c.toNat) && decide (c.toNat ≤ 126) && decide (c.toNat ≠ 34) && decide (c.toNat ≠ 92)
def hexB : List UInt8 := [48, 49, 50, 51, 52, 53, 54, 55, 56, 57, 97, 98, 99, 100, 101, 102]
def escS : List UInt8 → UInt8 × Nat
  | [] => (0, 0)
  | c :: r =>
    if c = 34 ∨ c = 92 then (c, 1)
    else if c = 110 then (10, 1)
    else if c = 116 then (9, 1)
    else if c = 120 then
      match r with
      | a :: b :: _ => if Lib.indexByte hexB a < 0 ∨ Lib.indexByte hexB b < 0 then (0, 0) else (UInt8.ofNat (16 * Lib.indexByte hexB a + Lib.indexByte hexB b).toNat, 3)
      | _ => (0, 0)
    else (0, 0)
def takeG : Nat → List UInt8 → Nat → List UInt8 → List UInt8 × Nat × Int
  | 0, _, _, _ => ([], 0, 5)
  | _ + 1, [], _, _ => ([], 0, 5)
  | m + 1, c :: r, i, acc =>
    if c = 34 then (if 200 < acc.length then ([], 0, 7) else (acc, i + 1, 0))
    else if c = 92 then (if (escS r).2 = 0 then ([], 0, 5) else takeG m (r.drop (escS r).2) (i + (escS r).2 + 1) (acc ++ [(escS r).1]))
    else if plainB c then takeG m r (i + 1) (acc ++ [c])
    else ([], 0, 5)
def takeS : List UInt8 → List UInt8 × Nat × Int
  | [] => ([], 0, 5)
  | c :: r => if c = 34 then takeG r.length.succ r 1 [] else ([], 0, 5)
def digN : List UInt8 → Nat
  | [] => 0
  | c :: r => if isDig c then digN r + 1 else 0
def signB : List UInt8 := [59, 58, 44, 46, 61, 60, 62, 43, 45, 42, 47, 94, 40, 41, 123, 125, 91, 93, 124, 38]
def wordS (s : List UInt8) (n : Nat) : Fnd :=
  if 20 < n then badF 7 else if isKw (s.take n) then ⟨⟨1, s.take n, 0, 0⟩, n, 0⟩ else if gr ((s.take n).getD 0 0) then ⟨⟨3, s.take n, 0, 0⟩, n, 0⟩ else ⟨⟨2, s.take n, 0, 0⟩, n, 0⟩
def varS (s : List UInt8) : Fnd :=
  if wordN (s.drop 1) = 0 ∨ gr (s.getD 1 0) then badF 5 else if 20 < wordN (s.drop 1) then badF 7 else ⟨⟨6, (s.drop 1).take (wordN (s.drop 1)), 0, 0⟩, wordN (s.drop 1) + 1, 0⟩
def parZ2 (neg : Bool) (l : List UInt8) : Int × Int := if parseOk neg l then (if neg then -(valD l : Int) else valD l, 0) else (0, 5)
def parZ (s : List UInt8) : Int × Int := if hasPre s [126] then parZ2 true (s.drop 1) else parZ2 false s
def numS (s : List UInt8) : Fnd :=
  ⟨⟨4, [], (parZ (s.take (digN (s.drop 1) + 1))).1, 0⟩, digN (s.drop 1) + 1, (parZ (s.take (digN (s.drop 1) + 1))).2⟩
def textS (s : List UInt8) : Fnd := ⟨⟨5, (takeS s).1, 0, 0⟩, (takeS s).2.1, (takeS s).2.2⟩
def signS (s : List UInt8) : Fnd :=
  if hasPre s [45, 62] || hasPre s [61, 61] then ⟨⟨7, s.take 2, 0, 0⟩, 2, 0⟩ else if Lib.indexByte signB (s.getD 0 0) < 0 then badF 5 else ⟨⟨7, s.take 1, 0, 0⟩, 1, 0⟩
def oneS (s : List UInt8) : Fnd :=
  if 0 < wordN s then wordS s (wordN s)
  else if s.getD 0 0 = 39 then varS s
  else if isDig (s.getD 0 0) || decide (s.getD 0 0 = 126) then numS s
  else if s.getD 0 0 = 34 then textS s
  else signS s
def blankB : List UInt8 := [32, 9, 10]
def feedN : List UInt8 → Option Nat
  | [] => none
  | c :: r => if c = 10 then some 0 else (feedN r).map (· + 1)
def passG : Nat → List UInt8 → Nat
  | 0, _ => 0
  | _ + 1, [] => 0
  | m + 1, c :: r =>
    if c = 32 ∨ c = 9 ∨ c = 10 then passG m r + 1
    else if c = 35 then
      match feedN (c :: r) with
      | none => (c :: r).length
      | some k => k + passG m ((c :: r).drop k)
    else 0
def passS (s : List UInt8) : Nat := passG s.length.succ s
def toksG : Nat → List UInt8 → Nat → List (Nat × Fnd)
  | 0, _, _ => []
  | m + 1, s, at' =>
    if s.drop (passS s) = [] then []
    else if (oneS (s.drop (passS s))).e ≠ 0 then [(at' + passS s, oneS (s.drop (passS s)))]
    else (at' + passS s, oneS (s.drop (passS s))) :: toksG m ((s.drop (passS s)).drop (oneS (s.drop (passS s))).n) (at' + passS s + (oneS (s.drop (passS s))).n)
def toksS (s : List UInt8) : List (Nat × Fnd) := toksG s.length.succ s 0
def badT : List (Nat × Fnd) → Option (Nat × Int)
  | [] => none
  | q :: r => if q.2.e ≠ 0 then some (q.1, q.2.e) else badT r
def tokOf (q : Nat × Fnd) : Tok := { q.2.t with pos := q.1 }
def lexS (s : List UInt8) : List Tok × Nat × Int :=
  match badT (toksS s) with
  | some (i, e) => ([], i, e)
  | none => ((toksS s).map tokOf, s.length, 0)
structure PS where
  l : List Tok
  fin : Int
  err : Int
  pos : Int
  nest : Nat
def PS.peek (s : PS) : Tok := match s.l with
  | [] => ⟨0, [], 0, s.fin⟩
  | t :: _ => t
def PS.next (s : PS) : PS := { s with l := s.l.tail }
def PS.fail (s : PS) (e p : Int) : PS := if s.err = 0 then { s with err := e, pos := p } else s
def PS.wrong (s : PS) : PS := s.fail 5 s.peek.pos
def PS.is (s : PS) (k : Int) (t : List UInt8) : Bool := !s.l.isEmpty && decide (s.peek.k = k) && decide (s.peek.s = t)
def PS.sees (s : PS) (k : Int) (t : List UInt8) : Bool := decide (s.err = 0) && s.is k t
def PS.may (s : PS) (k : Int) (t : List UInt8) : PS := if s.sees k t then s.next else s
def PS.must (s : PS) (k : Int) (t : List UInt8) : PS := if s.sees k t then s.next else s.wrong
def PS.has (s : PS) (k : Int) : Bool := decide (s.err = 0) && decide (s.peek.k = k)
def PS.of (s : PS) (k : Int) : List UInt8 × PS := if s.has k then (s.peek.s, s.next) else ([], s.wrong)
abbrev PR := List EN × PS
def nd0 (k : Int) (pos : Int) : EN := ⟨k, 0, 0, 0, 0, [], [], [], pos⟩
def leafE (n : EN) : List EN := joinE n []
def noE : List EN := leafE (nd0 1 0)
def rootE (ns : List EN) : EN := ndE ns (ns.length - 1)
def bTrue : List UInt8 := [116, 114, 117, 101]
def bFalse : List UInt8 := [102, 97, 108, 115, 101]
def bCase : List UInt8 := [99, 97, 115, 101]
def bFun : List UInt8 := [102, 117, 110]
def bLet : List UInt8 := [108, 101, 116]
def bRec : List UInt8 := [114, 101, 99]
def bIn : List UInt8 := [105, 110]
def bIf : List UInt8 := [105, 102]
def bThen : List UInt8 := [116, 104, 101, 110]
def bElse : List UInt8 := [101, 108, 115, 101]
def bOf : List UInt8 := [111, 102]
def bEnd : List UInt8 := [101, 110, 100]
def bTo : List UInt8 := [45, 62]
section
variable (ex : PS → PR)
def PS.parted (s : PS) (t : Tok) (l : List EF) : PS :=
  if s.err ≠ 0 then s else if l.length = 30 then s.fail 8 t.pos else if (l.any fun f => decide (f.nm = t.s)) then s.fail 5 t.pos else s
def fieldS (s : PS) (l : List EF) : EF × PS :=
  let r := s.of 2
  (⟨r.1, [], 0⟩, ((r.2.parted s.peek l).must 7 [61]))
def branchS (s : PS) (l : List EF) : EF × PS :=
  let r := s.of 3
  let q := (r.2.parted s.peek l).of 2
  (⟨r.1, q.1, 0⟩, q.2.must 7 bTo)
def partsS (between : List UInt8) (part : PS → List EF → EF × PS) : Nat → PS → List EF → List (List EN) → List EF × List (List EN) × PS
  | 0, s, l, ks => (l, ks, s)
  | m + 1, s, l, ks =>
    let f := part s l
    let e := ex f.2
    if e.2.sees 7 between then partsS between part m e.2.next (l ++ [f.1]) (ks ++ [e.1]) else (l ++ [f.1], ks ++ [e.1], e.2)
def recordS (s : PS) (pos : Int) : PR :=
  if s.sees 7 [125] then (leafE (nd0 11 pos), s.next)
  else
    let r := partsS ex [44] fieldS s.l.length.succ s [] []
    (joinE { nd0 11 pos with l := r.1 } r.2.1, r.2.2.must 7 [125])
def casesS (s : PS) (pos : Int) : PR :=
  let e := ex s
  let s1 := e.2.must 1 bOf
  let r := partsS ex [124] branchS s1.l.length.succ s1 [] []
  (joinE { nd0 14 pos with l := r.1 } (e.1 :: r.2.1), r.2.2.must 1 bEnd)
def atomS (s : PS) : PR :=
  let t := s.peek
  if s.err ≠ 0 then (noE, s.wrong)
  else if t.k = 4 then (leafE { nd0 1 t.pos with n := t.n }, s.next)
  else if t.k = 5 then (leafE { nd0 3 t.pos with s := t.s }, s.next)
  else if t.k = 2 then (leafE { nd0 4 t.pos with name := t.s }, s.next)
  else if s.sees 1 bTrue then (leafE { nd0 2 t.pos with n := 1 }, s.next)
  else if s.sees 1 bFalse then (leafE (nd0 2 t.pos), s.next)
  else if s.sees 7 [40] then
    let e := ex s.next
    (e.1, e.2.must 7 [41])
  else if s.sees 7 [123] then recordS ex s.next t.pos
  else if s.sees 1 bCase then casesS ex s.next t.pos
  else (noE, s.wrong)
def getsS : Nat → List EN → PS → PR
  | 0, a, s => (a, s)
  | m + 1, a, s => if s.sees 7 [46] then getsS m (joinE { nd0 12 s.peek.pos with name := (s.next.of 2).1 } [a]) (s.next.of 2).2 else (a, s)
def postS (s : PS) : PR :=
  let r := atomS ex s
  getsS r.2.l.length.succ r.1 r.2
def PS.begins (s : PS) : Bool :=
  let t := s.peek
  decide (t.k = 4) || decide (t.k = 5) || decide (t.k = 2) || (decide (t.k = 1) && (decide (t.s = bTrue) || decide (t.s = bFalse) || decide (t.s = bCase))) || (decide (t.k = 7) && (decide (t.s = [40]) || decide (t.s = [123])))
def appsS : Nat → List EN → PS → PR
  | 0, a, s => (a, s)
  | m + 1, a, s => if decide (s.err = 0) && s.begins then appsS m (joinE (nd0 6 (rootE a).pos) [a, (postS ex s).1]) (postS ex s).2 else (a, s)
def appS (s : PS) : PR :=
  if s.has 3 then
    let r := postS ex s.next
    (joinE { nd0 13 s.peek.pos with name := s.peek.s } [r.1], r.2)
  else
    let r := postS ex s
    appsS ex r.2.l.length.succ r.1 r.2
def opS (s : PS) : List (List UInt8 × Int) → Option Int
  | [] => none
  | q :: r => if s.sees 7 q.1 then some q.2 else opS s r
def opsProd : List (List UInt8 × Int) := [([42], 3), ([47], 4)]
def opsSum : List (List UInt8 × Int) := [([43], 1), ([45], 2), ([94], 7)]
def opsCmp : List (List UInt8 × Int) := [([60], 5), ([61, 61], 6)]
def binS (ops : List (List UInt8 × Int)) (sub : PS → PR) : Nat → List EN → PS → PR
  | 0, a, s => (a, s)
  | m + 1, a, s => match opS s ops with
    | some n => binS ops sub m (joinE { nd0 10 s.peek.pos with n := n } [a, (sub s.next).1]) (sub s.next).2
    | none => (a, s)
def prodS (s : PS) : PR := binS opsProd (appS ex) (appS ex s).2.l.length.succ (appS ex s).1 (appS ex s).2
def sumS (s : PS) : PR := binS opsSum (prodS ex) (prodS ex s).2.l.length.succ (prodS ex s).1 (prodS ex s).2
def cmpS (s : PS) : PR :=
  let a := sumS ex s
  match opS a.2 opsCmp with
  | some n =>
    let b := sumS ex a.2.next
    (joinE { nd0 10 a.2.peek.pos with n := n } [a.1, b.1], b.2)
  | none => a
def letS (s : PS) (pos : Int) : PR :=
  let k : Int := if s.sees 1 bRec then 8 else 7
  let x := (s.may 1 bRec).of 2
  let s2 := x.2.must 7 [61]
  let a := ex s2
  let s3 := if k = 8 ∧ (rootE a.1).k ≠ 5 then a.2.fail 5 s2.peek.pos else a.2
  let b := ex (s3.must 1 bIn)
  (joinE { nd0 k pos with name := x.1 } [a.1, b.1], b.2)
def ifS (s : PS) (pos : Int) : PR :=
  let a := ex s
  let b := ex (a.2.must 1 bThen)
  let c := ex (b.2.must 1 bElse)
  (joinE (nd0 9 pos) [a.1, b.1, c.1], c.2)
def exprB (s : PS) : PR :=
  let t := s.peek
  if s.sees 1 bFun then
    let x := s.next.of 2
    let b := ex (x.2.must 7 bTo)
    (joinE { nd0 5 t.pos with name := x.1 } [b.1], b.2)
  else if s.sees 1 bLet then letS ex s.next t.pos
  else if s.sees 1 bIf then ifS ex s.next t.pos
  else cmpS ex s
end
def exprS : Nat → PS → PR
  | 0, s => (noE, s.fail 6 s.peek.pos)
  | m + 1, s => if s.err ≠ 0 then (noE, s) else
    let r := exprB (exprS m) { s with nest := s.nest + 1 }
    (r.1, { r.2 with nest := s.nest })
def PSo (N : Int) (s : PS) : Prop := (∀ t ∈ s.l, 0 ≤ t.pos ∧ t.pos ≤ N) ∧ (0 ≤ s.fin ∧ s.fin ≤ N) ∧ (0 ≤ s.pos ∧ s.pos ≤ N)
structure SS (s r : PS) : Prop where
  suf : ∃ k, r.l = s.l.drop k
  fin : r.fin = s.fin
  nest : r.nest = s.nest
  pos : ∀ N, PSo N s → 0 ≤ r.pos ∧ r.pos ≤ N
theorem SS.refl (s : PS) : SS s s := ⟨⟨0, rfl⟩, rfl, rfl, fun _ h => h.2.2⟩
theorem SS.po {s r : PS} (h : SS s r) {N : Int} (g : PSo N s) : PSo N r := by
  obtain ⟨k, hk⟩ := h.suf
  refine ⟨fun t ht => ?_, by rw [h.fin]; exact g.2.1, h.pos N g⟩
  rw [hk] at ht
  exact g.1 t (List.mem_of_mem_drop ht)
theorem SS.trans {a b c : PS} (h : SS a b) (g : SS b c) : SS a c := by
  obtain ⟨k, hk⟩ := h.suf
  obtain ⟨j, hj⟩ := g.suf
  exact ⟨⟨k + j, by rw [hj, hk, List.drop_drop]⟩, g.fin.trans h.fin, g.nest.trans h.nest, fun N hN => g.pos N (h.po hN)⟩
theorem SS.len {s r : PS} (h : SS s r) : r.l.length ≤ s.l.length := by
  obtain ⟨k, hk⟩ := h.suf
  rw [hk, List.length_drop]; omega
theorem SS.next (s : PS) : SS s s.next := ⟨⟨1, by simp [PS.next]⟩, rfl, rfl, fun _ h => h.2.2⟩
theorem peek_po {N : Int} {s : PS} (h : PSo N s) : 0 ≤ s.peek.pos ∧ s.peek.pos ≤ N := by
  unfold PS.peek
  split
  · exact h.2.1
  · rename_i t r e
    exact h.1 t (by rw [e]; exact List.mem_cons_self)
theorem SS.fail (s : PS) (e p : Int) (h : ∀ N, PSo N s → 0 ≤ p ∧ p ≤ N) : SS s (s.fail e p) := by
  unfold PS.fail
  split
  · exact ⟨⟨0, rfl⟩, rfl, rfl, h⟩
  · exact SS.refl s
theorem SS.failp (s : PS) (e : Int) : SS s (s.fail e s.peek.pos) := SS.fail s e _ fun _ h => peek_po h
theorem SS.wrong (s : PS) : SS s s.wrong := SS.failp s 5
theorem SS.may (s : PS) (k : Int) (t : List UInt8) : SS s (s.may k t) := by
  unfold PS.may; split
  · exact SS.next s
  · exact SS.refl s
theorem SS.must (s : PS) (k : Int) (t : List UInt8) : SS s (s.must k t) := by
  unfold PS.must; split
  · exact SS.next s
  · exact SS.wrong s
theorem SS.of (s : PS) (k : Int) : SS s (s.of k).2 := by
  unfold PS.of; split
  · exact SS.next s
  · exact SS.wrong s
theorem sees_len {s : PS} {k : Int} {t : List UInt8} (h : s.sees k t = true) : s.next.l.length + 1 = s.l.length := by
  unfold PS.sees PS.is at h
  simp only [Bool.and_eq_true, Bool.not_eq_true', decide_eq_true_eq] at h
  have : s.l ≠ [] := by
    intro e; rw [e] at h; simp at h
  show s.l.tail.length + 1 = _
  rw [List.length_tail]
  have := List.length_pos_iff.2 this
  omega
theorem kind_len {s : PS} {k : Int} (h : s.peek.k = k) (hk : k ≠ 0) : s.next.l.length + 1 = s.l.length := by
  have : s.l ≠ [] := by
    intro e; unfold PS.peek at h; rw [e] at h; exact hk h.symm
  show s.l.tail.length + 1 = _
  rw [List.length_tail]
  have := List.length_pos_iff.2 this
  omega
theorem has_len {s : PS} {k : Int} (h : s.has k = true) (hk : k ≠ 0) : s.next.l.length + 1 = s.l.length := by
  unfold PS.has at h
  simp only [Bool.and_eq_true, decide_eq_true_eq] at h
  exact kind_len h.2 hk
def sumL (ls : List (List EN)) : Nat := (ls.map List.length).sum
theorem cat_len : ∀ (ls : List (List EN)) (acc : List EN) (rs : List Int), (catE ls acc rs).1.length = acc.length + sumL ls
  | [], _, _ => by simp [catE, sumL]
  | l :: r, acc, rs => by
    rw [catE, cat_len r]
    simp [sumL, Nat.add_assoc]
theorem join_len (n : EN) (ls : List (List EN)) : (joinE n ls).length = sumL ls + 1 := by
  simp [joinE, cat_len]
def WideL (b : Nat) (ns : List EN) : Prop := ∀ n ∈ ns, n.l.length ≤ b
theorem with_ll (n : EN) (ks : List Int) : (withE n ks).l.length ≤ n.l.length := by
  show (if partsZ n.k then partE ks (kidN n.k) n.l 0 else []).length ≤ _
  split
  · rw [partE_len]; exact Nat.le_refl _
  · exact Nat.zero_le _
theorem cat_wide {b : Nat} : ∀ (ls : List (List EN)) (acc : List EN) (rs : List Int), (∀ l ∈ ls, WideL b l) → WideL b acc → WideL b (catE ls acc rs).1
  | [], _, _, _, h => h
  | l :: r, acc, rs, hl, h => by
    refine cat_wide r _ _ (fun x hx => hl x (List.mem_cons_of_mem _ hx)) fun n hn => ?_
    rcases List.mem_append.1 hn with hn | hn
    · exact h n hn
    · obtain ⟨m, hm, rfl⟩ := List.mem_map.1 hn
      exact Nat.le_trans (with_ll _ _) (hl l List.mem_cons_self m hm)
theorem join_wide {b : Nat} {n : EN} {ls : List (List EN)} (hn : n.l.length ≤ b) (hl : ∀ l ∈ ls, WideL b l) : WideL b (joinE n ls) := by
  intro m hm
  rcases List.mem_append.1 hm with hm | hm
  · exact cat_wide ls [] [] hl (fun _ h => by cases h) m hm
  · rw [List.mem_singleton.1 hm]
    exact Nat.le_trans (with_ll _ _) hn
theorem WideL.mono {b c : Nat} {ns : List EN} (h : WideL b ns) (hc : b ≤ c) : WideL c ns := fun n hn => Nat.le_trans (h n hn) hc
structure GP (d : Nat) (s : PS) (r : PR) : Prop where
  ss : SS s r.2
  tr : Tr r.1
  sz : r.1.length + 4 * r.2.l.length ≤ 4 * s.l.length + d
  wd : WideL (s.l.length + 1 - r.2.l.length) r.1
theorem GP.pre {d e : Nat} {s s' : PS} {r : PR} (h : GP d s' r) (hs : SS s s') (he : 4 * s'.l.length + d ≤ 4 * s.l.length + e) : GP e s r :=
  ⟨hs.trans h.ss, h.tr, Nat.le_trans h.sz he, h.wd.mono (by have := hs.len; omega)⟩
theorem GP.post {d : Nat} {s : PS} {l : List EN} {s' s'' : PS} (h : GP d s (l, s')) (hs : SS s' s'') : GP d s (l, s'') :=
  ⟨h.ss.trans hs, h.tr, by have := h.sz; have := hs.len; simp only at *; omega, h.wd.mono (by have := hs.len; have := h.ss.len; simp only at *; omega)⟩
theorem GP.leaf {s s' : PS} {n : EN} (hn : wideE n = 0) (hl : n.l = []) (hs : SS s s') {d : Nat} (hd : 1 + 4 * s'.l.length ≤ 4 * s.l.length + d) : GP d s (leafE n, s') :=
  ⟨hs, .join n [] hn (fun _ h => by cases h), by show (joinE n []).length + _ ≤ _; rw [join_len]; simp only [sumL, List.map_nil, List.sum_nil]; omega, join_wide (by rw [hl]; exact Nat.zero_le _) (fun _ h => by cases h)⟩
theorem GP.join1 {s s1 : PS} {a : PR} {n : EN} {d e : Nat} (ha : GP d s1 a) (hs : SS s s1) (hn : wideE n = 1) (hl : n.l = []) (he : 4 * s1.l.length + d + 1 ≤ 4 * s.l.length + e) : GP e s (joinE n [a.1], a.2) := by
  have h1 := ha.sz
  have h3 := hs.len
  refine ⟨hs.trans ha.ss, .join n _ hn (fun l h => by rw [List.mem_singleton.1 h]; exact ha.tr), ?_, join_wide (by rw [hl]; exact Nat.zero_le _) fun l h => ?_⟩
  · rw [join_len]
    simp only [sumL, List.map_cons, List.map_nil, List.sum_cons, List.sum_nil]
    omega
  · rw [List.mem_singleton.1 h]
    exact ha.wd.mono (by simp only; omega)
theorem GP.join2 {s s1 s2 : PS} {a b : PR} {n : EN} {d d' e : Nat} (ha : GP d s1 a) (hb : GP d' s2 b) (hs : SS s s1) (hm : SS a.2 s2) (hn : wideE n = 2) (hl : n.l = [])
    (he : 4 * s1.l.length + 4 * s2.l.length + d + d' + 1 ≤ 4 * s.l.length + 4 * a.2.l.length + e) : GP e s (joinE n [a.1, b.1], b.2) := by
  have h1 := ha.sz
  have h2 := hb.sz
  have h3 := hs.len
  have h4 := hm.len
  have h5 := ha.ss.len
  have h6 := hb.ss.len
  refine ⟨((hs.trans ha.ss).trans hm).trans hb.ss, .join n _ hn (fun l h => ?_), ?_, join_wide (by rw [hl]; exact Nat.zero_le _) fun l h => ?_⟩
  · rcases List.mem_cons.1 h with rfl | h
    · exact ha.tr
    · rw [List.mem_singleton.1 h]; exact hb.tr
  · rw [join_len]
    simp only [sumL, List.map_cons, List.map_nil, List.sum_cons, List.sum_nil]
    omega
  · rcases List.mem_cons.1 h with rfl | h
    · exact ha.wd.mono (by simp only; omega)
    · rw [List.mem_singleton.1 h]; exact hb.wd.mono (by simp only; omega)
theorem GP.join3 {s s1 s2 s3 : PS} {a b c : PR} {n : EN} {d e : Nat} (ha : GP d s1 a) (hb : GP d s2 b) (hc : GP d s3 c) (hs : SS s s1) (hm : SS a.2 s2) (hm' : SS b.2 s3) (hn : wideE n = 3) (hl : n.l = [])
    (he : 4 * s1.l.length + 3 * d + 1 ≤ 4 * s.l.length + e) : GP e s (joinE n [a.1, b.1, c.1], c.2) := by
  have h1 := ha.sz
  have h2 := hb.sz
  have h2' := hc.sz
  have h3 := hs.len
  have h4 := hm.len
  have h4' := hm'.len
  have h5 := ha.ss.len
  have h6 := hb.ss.len
  have h7 := hc.ss.len
  refine ⟨((((hs.trans ha.ss).trans hm).trans hb.ss).trans hm').trans hc.ss, .join n _ hn (fun l h => ?_), ?_, join_wide (by rw [hl]; exact Nat.zero_le _) fun l h => ?_⟩
  · simp only [List.mem_cons, List.not_mem_nil, or_false] at h
    rcases h with rfl | rfl | rfl
    · exact ha.tr
    · exact hb.tr
    · exact hc.tr
  · rw [join_len]
    simp only [sumL, List.map_cons, List.map_nil, List.sum_cons, List.sum_nil]
    omega
  · simp only [List.mem_cons, List.not_mem_nil, or_false] at h
    rcases h with rfl | rfl | rfl
    · exact ha.wd.mono (by simp only; omega)
    · exact hb.wd.mono (by simp only; omega)
    · exact hc.wd.mono (by simp only; omega)
theorem cat_snoc (l : List EN) : ∀ (a : List (List EN)) (acc : List EN) (rs : List Int), catE (a ++ [l]) acc rs = ((catE a acc rs).1 ++ l.map (shiftE (catE a acc rs).1.length), (catE a acc rs).2 ++ [(((catE a acc rs).1.length + l.length : Nat) : Int) - 1])
  | [], _, _ => rfl
  | _ :: r, _, _ => cat_snoc l r _ _
def cutS (ls : List (List EN)) (i : Nat) : List EN × List Int := catE (ls.take i) [] []
theorem cutS_step {ls : List (List EN)} {i : Nat} (h : i < ls.length) : cutS ls (i + 1) = ((cutS ls i).1 ++ ls[i].map (shiftE (cutS ls i).1.length), (cutS ls i).2 ++ [(((cutS ls i).1.length + ls[i].length : Nat) : Int) - 1]) := by
  unfold cutS
  rw [List.take_succ_eq_append_getElem h, cat_snoc]
theorem cutS_end (ls : List (List EN)) : cutS ls ls.length = catE ls [] [] := by rw [cutS, List.take_length]
theorem sumL_app (a b : List (List EN)) : sumL (a ++ b) = sumL a + sumL b := by simp [sumL]
theorem cutS_len {ls : List (List EN)} {i : Nat} (h : i < ls.length) : (cutS ls i).1.length + ls[i].length ≤ sumL ls := by
  have h1 : (cutS ls i).1.length = sumL (ls.take i) := by unfold cutS; rw [cat_len]; simp
  have h2 : sumL ls = sumL (ls.take i) + sumL (ls.drop i) := by rw [← sumL_app, List.take_append_drop]
  have h3 : sumL (ls.drop i) = ls[i].length + sumL (ls.drop (i + 1)) := by rw [List.drop_eq_getElem_cons h]; unfold sumL; rw [List.map_cons, List.sum_cons]
  omega
theorem cat_rs : ∀ (ls : List (List EN)) (acc : List EN) (rs : List Int), (catE ls acc rs).2.length = rs.length + ls.length
  | [], _, _ => by simp [catE]
  | l :: r, acc, rs => by rw [catE, cat_rs]; simp; omega
theorem cutS_rs (ls : List (List EN)) (i : Nat) : (cutS ls i).2.length ≤ i := by unfold cutS; rw [cat_rs]; simp; omega
def addP (off : Nat) (K : List Int) (x : Nat) : List Int := ((K.take x).map fun k : Int => k + off) ++ K.drop x
theorem addP_end (off : Nat) (K : List Int) : addP off K K.length = K.map fun k : Int => k + off := by simp [addP]
theorem addP_len (off : Nat) (K : List Int) (x : Nat) : (addP off K x).length = K.length := by
  simp only [addP, List.length_append, List.length_map, List.length_take, List.length_drop]; omega
theorem addP_get {off : Nat} {K : List Int} {x : Nat} (h : x < K.length) : (addP off K x).getD x 0 = K.getD x 0 := by
  unfold addP
  rw [List.getD_eq_getElem?_getD, List.getElem?_append_right (by simp; omega)]
  simp [Nat.min_eq_left (Nat.le_of_lt h), h]
theorem addP_step {off : Nat} {K : List Int} {x : Nat} (h : x < K.length) : (addP off K x).set x (K.getD x 0 + off) = addP off K (x + 1) := by
  have h1 : K.take (x + 1) = K.take x ++ [K[x]] := by simp
  have h2 : K.drop x = K[x] :: K.drop (x + 1) := List.drop_eq_getElem_cons h
  unfold addP
  have h3 : ((K.take x).map fun k : Int => k + off).length = x := by simp; omega
  rw [h1, h2, List.set_append_right _ _ (by omega), h3, Nat.sub_self, List.set_cons_zero, List.map_append, List.append_assoc]
  simp [h]
theorem exs_get {ls : List (List EN)} {i : Nat} (h : i < ls.length) : (ls.map exD).getD i .nilp = .agg [.sl (some 9) (ls[i].map enD)] := by simp [h, exD]
theorem enD_eq (M : EN) : enD M = .agg [i64 M.k, i64 M.a, i64 M.b, i64 M.c, i64 M.n, .str M.name, .str M.s, .sl (some 3) (M.l.map fD), i64 M.pos] := rfl
theorem f86_ok {G} (n : EN) (ls : List (List EN)) (hn : n.l.length ≤ 1000000) (hL : ls.length ≤ 1000000) (hS : sumL ls ≤ 1000000) (hk : ∀ l ∈ ls, ∀ m ∈ l, KidsLt l.length m) (hw : ∀ l ∈ ls, WideL 900000 l) :
    HP Tryz.prog G 86 [enD n, .sl (some 1) (ls.map exD)] (fun r => r = .d (exD (joinE n ls))) := by
  unfold enD efD
  refine funZ_ok Tryz.func86 rfl (by decide +kernel) (by simp [Tryz.ntmps86]) (veil fun E => ?_)
  simp only [go_sem]
  refine c_thaw E 6 98 none rfl (by rw [mk_used]; decide) ?_
  simp only [go_sem]
  refine c_thawB E [5] 0 97 (some 9) [.d .nils] rfl rfl (by rw [mk_used]; decide) ?_
  simp only [go_sem]
  refine loopT_e E (X := { i : Nat // i ≤ ls.length }) (fun x => [(2, .at [2] 0), (4, .at [4] 0), (5, .at [5] 0), (6, .vw [98] 0 (cutS ls x.1).2.length), (14, .d (.sl (some 1) (ls.map exD))), (15, .d (i64 ls.length)), (16, .d (i64 x.1))])
    (fun x => [([2], .box [.d (i64 n.k), .d (i64 n.a), .d (i64 n.b), .d (i64 n.c), .d (i64 n.n), .d (.str n.name), .d (.str n.s), .d (.sl (some 3) (n.l.map fD)), .d (i64 n.pos)]), ([4], .box [.d .nils]), ([5], .box [.vw [97] 0 (cutS ls x.1).1.length]), ([97], .arr (some 9) ((cutS ls x.1).1.map enD)), ([98], .arr none ((cutS ls x.1).2.map i64))]) [2, 4, 5, 97, 98] (fun x => ls.length - x.1) ⟨0, Nat.zero_le _⟩ id ?_ ?_
  · simp only [go_sem]
    exact ⟨rfl, rfl, rfl, rfl⟩
  rintro ⟨i, hi⟩ E0
  refine hideQ E0 fun Q' hQ E' => ?_
  simp only at hi ⊢
  simp only [go_sem]
  refine e_ifd E' (fun h1 => ?_) (fun h1 => ?_) <;> simp only [go_sem]
  · have h1' : i < ls.length := by omega
    refine ⟨⟨by omega, by omega⟩, ?_⟩
    rw [exs_get h1']
    obtain ⟨l, hle⟩ : ∃ l, l = ls[i] := ⟨_, rfl⟩
    have hmem : l ∈ ls := by rw [hle]; exact List.getElem_mem h1'
    have hcl := cutS_len h1'
    have hcs := cutS_step h1'
    have hcr := cutS_rs ls i
    rw [← hle] at hcl hcs ⊢
    obtain ⟨acc, hacc⟩ : ∃ acc, acc = (cutS ls i).1 := ⟨_, rfl⟩
    obtain ⟨rs, hrs⟩ : ∃ rs, rs = (cutS ls i).2 := ⟨_, rfl⟩
    rw [← hacc] at hcl hcs
    rw [← hrs] at hcr hcs
    simp only [← hacc, ← hrs]
    simp only [go_sem]
    refine loopT_e E' (X := { j : Nat // j ≤ l.length }) (fun x => [(2, .at [2] 0), (4, .at [4] 0), (5, .at [5] 0), (6, .vw [98] 0 rs.length), (14, .d (.sl (some 1) (ls.map exD))), (15, .d (i64 ls.length)), (16, .d (i64 i)), (9, .d (i64 acc.length)), (24, .d (.sl (some 9) (l.map enD))), (25, .d (i64 l.length)), (26, .d (i64 x.1))])
      (fun x => [([2], .box [.d (i64 n.k), .d (i64 n.a), .d (i64 n.b), .d (i64 n.c), .d (i64 n.n), .d (.str n.name), .d (.str n.s), .d (.sl (some 3) (n.l.map fD)), .d (i64 n.pos)]), ([4], .box [.d .nils]), ([5], .box [.vw [97] 0 (acc.length + x.1)]), ([97], .arr (some 9) ((acc ++ (l.take x.1).map (shiftE acc.length)).map enD)), ([98], .arr none (rs.map i64))]) [2, 4, 5, 97, 98] (fun x => l.length - x.1) ⟨0, Nat.zero_le _⟩ id ?_ ?_
    · simp only [go_sem]
      all_goals first | rfl | simp
    rintro ⟨j, hj⟩ E2
    refine hideQ E2 fun Q2 hQ2 E3 => ?_
    simp only at hj ⊢
    simp only [go_sem]
    refine e_ifd E3 (fun h2 => ?_) (fun h2 => ?_) <;> simp only [go_sem]
    · have h2' : j < l.length := by omega
      refine ⟨⟨by omega, by omega⟩, ?_⟩
      rw [ens_get h2', ndE_eq h2']
      obtain ⟨m, hm⟩ : ∃ m, m = l[j] := ⟨_, rfl⟩
      have hmm : m ∈ l := by rw [hm]; exact List.getElem_mem h2'
      have hmk := hk l hmem m hmm
      have hml := hw l hmem m hmm
      rw [← hm]
      simp only [go_sem]
      refine e_callO E3 [.d (enD m)] [] [] (f104_new m (by omega)) rfl rfl ⟨by simp only [go_sem], by rw [mk_used]; decide⟩ rfl (by simp only [go_sem]) (by simp only [go_sem]) ?_
      rintro _ _ ⟨rfl, rfl⟩
      simp only [go_sem]
      have hKl : (kidsE m).length ≤ 1000000 := by
        rw [kidsE_len]; unfold wideE
        have := kidN_le m.k
        split <;> omega
      have hKk : ∀ q, q < (kidsE m).length → 0 ≤ (kidsE m).getD q 0 ∧ (kidsE m).getD q 0 < l.length := fun q hq => hmk _ (by simp [hq])
      have hwm : withE m ((kidsE m).map fun k : Int => k + acc.length) = shiftE acc.length m := rfl
      obtain ⟨K, hK⟩ : ∃ K, K = kidsE m := ⟨_, rfl⟩
      rw [← hK] at hKl hKk hwm ⊢
      refine loopT_e E3 (X := { q : Nat // q ≤ K.length }) (fun x => [(2, .at [2] 0), (4, .at [4] 0), (5, .at [5] 0), (6, .vw [98] 0 rs.length), (11, .at [11] 0), (12, .vw [96] 0 K.length), (14, .d (.sl (some 1) (ls.map exD))), (15, .d (i64 ls.length)), (16, .d (i64 i)), (9, .d (i64 acc.length)), (24, .d (.sl (some 9) (l.map enD))), (25, .d (i64 l.length)), (26, .d (i64 j)), (33, .d (i64 K.length)), (34, .d (i64 x.1))])
        (fun x => [([2], .box [.d (i64 n.k), .d (i64 n.a), .d (i64 n.b), .d (i64 n.c), .d (i64 n.n), .d (.str n.name), .d (.str n.s), .d (.sl (some 3) (n.l.map fD)), .d (i64 n.pos)]), ([4], .box [.d .nils]), ([5], .box [.vw [97] 0 (acc.length + j)]), ([97], .arr (some 9) ((acc ++ (l.take j).map (shiftE acc.length)).map enD)), ([98], .arr none (rs.map i64)),
          ([11], .box [.d (i64 m.k), .d (i64 m.a), .d (i64 m.b), .d (i64 m.c), .d (i64 m.n), .d (.str m.name), .d (.str m.s), .d (.sl (some 3) (m.l.map fD)), .d (i64 m.pos)]), ([96], .arr none ((addP acc.length K x.1).map i64))]) [2, 4, 5, 11, 96, 97, 98] (fun x => K.length - x.1) ⟨0, Nat.zero_le _⟩ (tau [([96], [31, 0])]) ?_ ?_
      · simp only [go_sem]
        all_goals rfl
      rintro ⟨q, hq⟩ E4
      refine hideQ E4 fun Q4 hQ4 E5 => ?_
      simp only at hq ⊢
      simp only [go_sem]
      refine e_ifd E5 (fun h3 => ?_) (fun h3 => ?_) <;> simp only [go_sem]
      · have h3' : q < K.length := by omega
        have hpl := addP_len acc.length K q
        have hin := hKk q h3'
        rw [show ((addP acc.length K q).map i64).getD q .nilp = i64 (K.getD q 0) by rw [← addP_get h3', ints_get (by omega)]]
        simp only [go_sem]
        refine ⟨⟨by omega, by omega⟩, ⟨by omega, by omega⟩, ?_⟩
        have hmp : ((addP acc.length K q).map i64).set q (.int .i64 (w64 (K.getD q 0 + acc.length))) = (addP acc.length K (q + 1)).map i64 := by
          rw [w64_in ⟨by omega, by omega⟩, ← addP_step h3', List.map_set]
        rw [hmp, hQ4]
        simp only [go_sem]
        refine ⟨⟨q + 1, by omega⟩, by show K.length - (q + 1) < _; omega, id, ?_⟩
        rw [w64_in ⟨by omega, by omega⟩]
        simp only [go_sem]
        all_goals rfl
      · have hq2 : q = K.length := by omega
        subst hq2
        rw [addP_end, hQ4]
        simp only [go_sem]
        refine c_frzA E3 [96] none ((K.map fun k : Int => k + acc.length).map i64) rfl ?_
        simp only [go_sem]
        refine region_xv mixed E3 fun X => ?_
        simp only [go_sem]
        rw [List.take_of_length_le (l := List.map i64 _) (by simp)]
        refine x_call X (f105_ok m (K.map fun k : Int => k + acc.length) (by omega) (by rw [List.length_map]; exact hKl)) rfl rfl (by simp) ?_
        obtain ⟨M, hM⟩ : ∃ M, M = shiftE acc.length m := ⟨_, rfl⟩
        rw [hwm, ← hM, enD_eq M]
        simp only [go_sem]
        have hout : List.take (acc.length + j) (List.map enD (acc ++ List.map (shiftE acc.length) (List.take j l))) ++ [.agg [i64 M.k, i64 M.a, i64 M.b, i64 M.c, i64 M.n, .str M.name, .str M.s, .sl (some 3) (M.l.map fD), i64 M.pos]] = (acc ++ (l.take (j + 1)).map (shiftE acc.length)).map enD := by
          rw [List.take_of_length_le (by simp; omega), List.take_succ_eq_append_getElem h2', ← hm]
          simp only [List.map_append, List.map_cons, List.map_nil, ← hM, ← enD_eq M, List.append_assoc]
        rw [hout]
        refine ⟨by omega, by decide +kernel, ?_⟩
        rw [hQ2]
        simp only [go_sem]
        refine ⟨⟨j + 1, by omega⟩, by show l.length - (j + 1) < _; omega, tau [([97], [51])], ?_⟩
        rw [w64_in ⟨by omega, by omega⟩]
        simp only [go_sem]
        exact ⟨rfl, rfl⟩
    · rw [hQ2]
      simp only [go_sem]
      have hj2 : j = l.length := by omega
      subst hj2
      have hro : List.map i64 rs ++ [.int .i64 (w64 (((acc.length + l.length : Nat) : Int) - 1))] = (rs ++ [((acc.length + l.length : Nat) : Int) - 1]).map i64 := by
        rw [w64_in ⟨by omega, by omega⟩]
        simp only [List.map_append, List.map_cons, List.map_nil]
      rw [hro]
      refine ⟨by omega, ?_⟩
      rw [hQ]
      simp only [go_sem]
      refine ⟨⟨i + 1, by omega⟩, by show ls.length - (i + 1) < _; omega, tau [([98], [60])], ?_⟩
      simp only [hcs]
      rw [w64_in ⟨by omega, by omega⟩]
      simp only [go_sem]
      simp only [List.length_append, List.length_map, List.length_singleton]
      refine ⟨⟨trivial, rfl⟩, ?_⟩
      first | rfl | exact ⟨rfl, rfl⟩ | exact ⟨trivial, rfl⟩ | exact ⟨rfl, trivial⟩ | trivial
  · rw [hQ]
    have hi2 : i = ls.length := by omega
    subst hi2
    rw [cutS_end]
    obtain ⟨acc, hacc⟩ : ∃ acc, acc = (catE ls [] []).1 := ⟨_, rfl⟩
    obtain ⟨rs, hrs⟩ : ∃ rs, rs = (catE ls [] []).2 := ⟨_, rfl⟩
    have hal : acc.length = sumL ls := by rw [hacc, cat_len]; simp
    have hrl : rs.length = ls.length := by rw [hrs, cat_rs]; simp
    have hj : joinE n ls = acc ++ [withE n rs] := by unfold joinE; rw [← hacc, ← hrs]
    rw [← hacc, ← hrs]
    simp only [go_sem]
    refine c_frzA E [98] none (rs.map i64) rfl ?_
    simp only [go_sem]
    refine region_xv mixed E fun X => ?_
    simp only [go_sem]
    refine x_call X (f105_ok n rs hn (by omega)) rfl rfl (by simp) ?_
    obtain ⟨M, hM⟩ : ∃ M, M = withE n rs := ⟨_, rfl⟩
    rw [← hM, enD_eq M]
    simp only [go_sem]
    have hout : List.map enD acc ++ [.agg [i64 M.k, i64 M.a, i64 M.b, i64 M.c, i64 M.n, .str M.name, .str M.s, .sl (some 3) (M.l.map fD), i64 M.pos]] = (joinE n ls).map enD := by
      rw [hj, ← hM, List.map_append, ← enD_eq]; rfl
    rw [hout]
    refine ⟨by omega, by decide +kernel, [([68], some 9, (joinE n ls).map enD)], ?_⟩
    simp only [go_sem]
    rw [List.take_of_length_le (by rw [hj]; simp)]
    rfl
theorem esc_le (r : List UInt8) : (escS r).2 ≤ r.length := by
  unfold escS
  (repeat' split) <;> simp
theorem take_n : ∀ (m : Nat) (r : List UInt8) (i : Nat) (acc : List UInt8), (takeG m r i acc).2.2 = 0 → i + 1 ≤ (takeG m r i acc).2.1 ∧ (takeG m r i acc).2.1 ≤ i + r.length
  | 0, _, _, _, h => by simp [takeG] at h
  | _ + 1, [], _, _, h => by simp [takeG] at h
  | m + 1, c :: r, i, acc, h => by
    unfold takeG at h ⊢
    split at h
    · rename_i hc
      rw [if_pos hc]
      split at h
      · simp at h
      · rename_i h2; rw [if_neg h2]; simp only [List.length_cons]; omega
    rename_i hc
    rw [if_neg hc]
    split at h
    · rename_i h1
      rw [if_pos h1]
      split at h
      · simp at h
      · rename_i h2
        rw [if_neg h2]
        have ih := take_n m _ _ _ h
        have := esc_le r
        rw [List.length_drop] at ih
        simp only [List.length_cons]; omega
    rename_i h1
    rw [if_neg h1]
    split at h
    · rename_i h2
      rw [if_pos h2]
      have ih := take_n m _ _ _ h
      simp only [List.length_cons]; omega
    · simp at h
theorem takeS_n {s : List UInt8} (h : (takeS s).2.2 = 0) : 1 ≤ (takeS s).2.1 ∧ (takeS s).2.1 ≤ s.length := by
  cases s with
  | nil => simp [takeS] at h
  | cons c r =>
    simp only [takeS] at h ⊢
    by_cases hc : c = 34
    · rw [if_pos hc] at h ⊢
      have := take_n _ _ _ _ h
      simp only [List.length_cons]; omega
    · rw [if_neg hc] at h; simp at h
theorem wordN_le (l : List UInt8) : wordN l ≤ l.length := by
  cases l with
  | nil => simp [wordN]
  | cons c r =>
    rw [wordN_cons (by simp)]
    have := wlen_le ((c :: r).drop 1)
    split
    · simp only [List.drop_succ_cons, List.drop_zero] at this; simp; omega
    · omega
theorem digN_le : ∀ l : List UInt8, digN l ≤ l.length
  | [] => Nat.le_refl _
  | c :: r => by
    unfold digN
    have := digN_le r
    split <;> simp
    omega
theorem hasPre_len {s p : List UInt8} (h : hasPre s p = true) : p.length ≤ s.length := by
  simp only [hasPre, Bool.and_eq_true, decide_eq_true_eq] at h
  exact h.1
theorem one_n {s : List UInt8} (hs : s ≠ []) (h : (oneS s).e = 0) : 1 ≤ (oneS s).n ∧ (oneS s).n ≤ s.length := by
  have h0 := List.length_pos_iff.2 hs
  unfold oneS at h ⊢
  split at h
  · rename_i hw
    rw [if_pos hw]
    unfold wordS at h ⊢
    have := wordN_le s
    split at h
    · simp [badF] at h
    rename_i h1
    rw [if_neg h1]
    (repeat' split) <;> (simp only; omega)
  rename_i hw
  rw [if_neg hw]
  split at h
  · rename_i h1
    rw [if_pos h1]
    unfold varS at h ⊢
    split at h
    · simp [badF] at h
    rename_i h2
    rw [if_neg h2]
    split at h
    · simp [badF] at h
    rename_i h3
    rw [if_neg h3]
    have := wordN_le (s.drop 1)
    rw [List.length_drop] at this
    have h4 : ¬ wordN (s.drop 1) = 0 := fun e => h2 (.inl e)
    simp only; omega
  rename_i h1
  rw [if_neg h1]
  split at h
  · rename_i h2
    rw [if_pos h2]
    unfold numS
    have := digN_le (s.drop 1)
    rw [List.length_drop] at this
    simp only; omega
  rename_i h2
  rw [if_neg h2]
  split at h
  · rename_i h3
    rw [if_pos h3]
    exact takeS_n h
  rename_i h3
  rw [if_neg h3]
  unfold signS at h ⊢
  split at h
  · rename_i h4
    rw [if_pos h4]
    simp only [Bool.or_eq_true] at h4
    rcases h4 with h4 | h4
    · have := hasPre_len h4; simp at this; simp only; omega
    · have := hasPre_len h4; simp at this; simp only; omega
  rename_i h4
  rw [if_neg h4]
  split at h
  · simp [badF] at h
  · rename_i h5; rw [if_neg h5]; simp only; omega
theorem toks_in : ∀ (m : Nat) (s : List UInt8) (at' : Nat), ∀ q ∈ toksG m s at', q.1 ≤ at' + s.length
  | 0, _, _, _, h => by simp [toksG] at h
  | m + 1, s, at', q, h => by
    unfold toksG at h
    split at h
    · cases h
    rename_i hd
    have h0 := List.length_pos_iff.2 hd
    rw [List.length_drop] at h0
    split at h
    · rw [List.mem_singleton.1 h]; simp only; omega
    rename_i he
    have hn := one_n hd (by simpa using he)
    rw [List.length_drop] at hn
    rcases List.mem_cons.1 h with rfl | h
    · simp only; omega
    · have := toks_in m _ _ q h
      simp only [List.length_drop] at this
      omega
theorem toks_few : ∀ (m : Nat) (s : List UInt8) (at' : Nat), (toksG m s at').length ≤ s.length
  | 0, _, _ => by simp [toksG]
  | m + 1, s, at' => by
    unfold toksG
    split
    · simp
    rename_i hd
    have h0 := List.length_pos_iff.2 hd
    rw [List.length_drop] at h0
    split
    · simp; omega
    rename_i he
    have hn := one_n hd (by simpa using he)
    rw [List.length_drop] at hn
    have := toks_few m ((s.drop (passS s)).drop (oneS (s.drop (passS s))).n) (at' + passS s + (oneS (s.drop (passS s))).n)
    simp only [List.length_drop, List.length_cons] at this ⊢
    omega
theorem badT_mem : ∀ {l : List (Nat × Fnd)} {q : Nat × Int}, badT l = some q → ∃ x ∈ l, x.1 = q.1
  | [], _, h => by cases h
  | a :: r, q, h => by
    unfold badT at h
    split at h
    · cases h; exact ⟨a, List.mem_cons_self, rfl⟩
    · obtain ⟨x, hx, e⟩ := badT_mem h
      exact ⟨x, List.mem_cons_of_mem _ hx, e⟩
theorem badT_ne : ∀ {l : List (Nat × Fnd)} {q : Nat × Int}, badT l = some q → q.2 ≠ 0
  | [], _, h => by cases h
  | a :: r, q, h => by
    unfold badT at h
    split at h
    · rename_i g; cases h; exact g
    · exact badT_ne h
theorem lex_in (s : List UInt8) : (lexS s).2.1 ≤ s.length ∧ (∀ t ∈ (lexS s).1, 0 ≤ t.pos ∧ t.pos ≤ s.length) ∧ (lexS s).1.length ≤ s.length ∧ ((lexS s).2.2 = 0 → (lexS s).2.1 = s.length) := by
  have hin := toks_in s.length.succ s 0
  unfold lexS
  split
  · rename_i i e h
    obtain ⟨x, hx, hxe⟩ := badT_mem h
    have := hin x hx
    have := badT_ne h
    refine ⟨by simp only at *; omega, fun _ h => (by cases h), Nat.zero_le _, fun h => absurd h this⟩
  · refine ⟨Nat.le_refl _, fun t ht => ?_, ?_, fun _ => rfl⟩
    · obtain ⟨q, hq, rfl⟩ := List.mem_map.1 ht
      have := hin q hq
      show 0 ≤ (q.1 : Int) ∧ (q.1 : Int) ≤ _
      omega
    · rw [List.length_map]; exact toks_few _ _ _
theorem ib_run (l : List UInt8) (c : UInt8) (w : World) : (callFunc 296 #[.string ⟨l.toArray⟩, .int .u8 (c.toNat : Nat)]).run Tryz.prog w = .ok (.value (.int .i64 (Lib.indexByte l c))) w := by
  rw [run_callFunc_extern Tryz.func296 (by kernel_rfl) (by kernel_rfl) (by kernel_rfl) (e := Extern.BytealgIndexByte.indexByte) (by kernel_rfl)]
  rw [Lib.run_indexByteString]
  simp [Result.andThen]
theorem f265_ok {G} (l : List UInt8) (c : UInt8) : HP Tryz.prog G 265 [.str l, u8 c] (fun r => r = .d (i64 (Lib.indexByte l c))) := by
  unfold u8
  refine funP_ok Tryz.func265 rfl (by decide +kernel) (by simp [Tryz.ntmps265]) (veil fun E => ?_)
  simp only [go_sem]
  refine e_ext E 296 [.str l, .int .u8 (c.toNat : Nat)] [.string ⟨l.toArray⟩, .int .u8 (c.toNat : Nat)] (.int .i64 (Lib.indexByte l c)) (.int .i64 (Lib.indexByte l c)) rfl rfl (ib_run l c) (by simp only [go_sem]) rfl rfl ?_
  simp only [go_sem]
theorem f214_ok {G} (l : List UInt8) (c : UInt8) : HP Tryz.prog G 214 [.str l, u8 c] (fun r => r = .d (i64 (Lib.indexByte l c))) := by
  refine funP_ok Tryz.func214 rfl (by decide +kernel) (by simp [Tryz.ntmps214]) (veil fun E => ?_)
  simp only [go_sem]
  refine e_call E (f265_ok l c) rfl rfl (by simp) ?_
  rintro _ rfl
  simp only [go_sem]
theorem f269_ok {G} (s p : List UInt8) : HP Tryz.prog G 269 [.str s, .str p] (fun r => r = .d (.bool (hasPre s p))) := by
  refine funP_ok Tryz.func269 rfl (by decide +kernel) (by simp [Tryz.ntmps269]) (veil fun E => ?_)
  simp only [go_sem]
  refine e_call E (f304_ok s p) rfl rfl (by simp) ?_
  rintro _ rfl
  simp only [go_sem]
theorem f303_ok {G} (c : UInt8) : HP Tryz.prog G 303 [u8 c] (fun r => r = .d (.bool (plainB c))) := by
  unfold u8
  refine funP_ok Tryz.func303 rfl (by decide +kernel) (by simp [Tryz.ntmps303]) (veil fun E => ?_)
  simp only [go_sem]
  repeat (first
    | (apply e_gm E; (· simp only [go_sem]); (· intro h; (try simp only [Bool.and_eq_true, Bool.not_eq_true', Bool.not_eq_false'] at h); simp only [↓h, go_sem]; rfl); simp only [go_sem])
    | (apply e_gpk E; (· simp only [go_sem]); (· intro h; (try simp only [Bool.and_eq_true, Bool.not_eq_true', Bool.not_eq_false'] at h); simp only [↓h, go_sem]; rfl); (· intro h; (try simp only [Bool.and_eq_true, Bool.not_eq_true', Bool.not_eq_false'] at h); simp only [↓h, go_sem]; rfl); simp only [go_sem])
    | (apply e_gm2 E; (· simp only [go_sem]); (· rfl); (· intro h h'; (try simp only [Bool.and_eq_true, Bool.not_eq_true', Bool.not_eq_false'] at h h'); simp only [↓h, ↓h', go_sem]; rfl); simp only [go_sem])
    | (apply e_gpk2 E; (· simp only [go_sem]); (· rfl); (· intro h h'; (try simp only [Bool.and_eq_true, Bool.not_eq_true', Bool.not_eq_false'] at h h'); simp only [↓h, ↓h', go_sem]; rfl); (· intro h h'; (try simp only [Bool.and_eq_true, Bool.not_eq_true', Bool.not_eq_false'] at h h'); simp only [↓h, ↓h', go_sem]; rfl); simp only [go_sem])
    | (apply e_pk E; (· decide); simp only [go_sem]))
  have hp : (((decide (32 ≤ ((c.toNat : Nat) : Int)) && decide (((c.toNat : Nat) : Int) ≤ 126)) && decide (¬ ((c.toNat : Nat) : Int) = 34)) && decide (¬ ((c.toNat : Nat) : Int) = 92)) = plainB c := by
    unfold plainB
    rw [Bool.eq_iff_iff]; simp; omega
  rw [hp]
theorem u8_is {c : UInt8} (d : UInt8) (h : ((c.toNat : Nat) : Int) = (d.toNat : Nat)) : c = d := UInt8.toNat_inj.1 (by omega)
theorem u8_isnt {c : UInt8} (d : UInt8) (h : ¬ ((c.toNat : Nat) : Int) = (d.toNat : Nat)) : ¬ c = d := fun e => h (by rw [e])
def escX (c : UInt8) (r : List UInt8) : UInt8 × Nat := if c = 110 then (10, 1) else if c = 116 then (9, 1) else if c = 120 then (match r with | a :: b :: _ => if Lib.indexByte hexB a < 0 ∨ Lib.indexByte hexB b < 0 then (0, 0) else (UInt8.ofNat (16 * Lib.indexByte hexB a + Lib.indexByte hexB b).toNat, 3) | _ => (0, 0)) else (0, 0)
theorem esc_eq (c : UInt8) (r : List UInt8) : escS (c :: r) = if c = 34 ∨ c = 92 then (c, 1) else escX c r := rfl
theorem esc_one (c : UInt8) (r : List UInt8) (h : c = 34 ∨ c = 92) : escS (c :: r) = (c, 1) := by rw [esc_eq, if_pos h]
theorem esc_two (c : UInt8) (r : List UInt8) (h : ¬ (c = 34 ∨ c = 92)) : escS (c :: r) = escX c r := by rw [esc_eq, if_neg h]
theorem ib_lt (c : UInt8) : ∀ l : List UInt8, Lib.indexByte l c < l.length ∨ l = []
  | [] => .inr rfl
  | b :: l => by
    left
    have := ib_lt c l
    unfold Lib.indexByte
    split
    · simp only [List.length_cons]; omega
    split
    · simp only [List.length_cons]; omega
    · rcases this with h | h
      · simp only [List.length_cons]; omega
      · rename_i h1 h2
        subst h
        exact absurd rfl h2
theorem hex_lt (c : UInt8) : Lib.indexByte hexB c < 16 := by
  rcases ib_lt c hexB with h | h
  · exact h
  · cases h
theorem f301_ok {G} (s : List UInt8) (hl : s.length ≤ 1000000) : HP Tryz.prog G 301 [.str s] (fun r => r = .tup [.d (u8 (escS s).1), .d (i64 (escS s).2)]) := by
  unfold u8
  refine funP_ok Tryz.func301 rfl (by decide +kernel) (by simp [Tryz.ntmps301]) (veil fun E => ?_)
  simp only [go_sem]
  refine e_if E (fun h => ?_) (fun h => ?_) <;> simp only [go_sem]
  · have h0 : s = [] := by simpa using h
    subst h0
    rfl
  cases s with
  | nil => simp at h
  | cons c r =>
  have hc0 : (c :: r).getD 0 0 = c := rfl
  simp only [List.length_cons] at hl
  refine ⟨by simp, ?_⟩
  rw [hc0]
  have key1 : c = 34 ∨ c = 92 → escS (c :: r) = (c, 1) := esc_one c r
  have key0 : ¬ (c = 34 ∨ c = 92) → escS (c :: r) = escX c r := esc_two c r
  refine e_ifd E (fun h1 => ?_) (fun h1 => ?_) <;> simp only [go_sem]
  · refine e_ifd E (fun _ => ?_) (fun h2 => absurd h1 h2) <;> simp only [go_sem]
    refine ⟨by simp, ?_⟩
    rw [key1 (.inl (u8_is 34 h1))]
    rfl
  refine e_ifd E (fun h2 => ?_) (fun h2 => ?_) <;> simp only [go_sem]
  · refine ⟨by simp, ?_⟩
    rw [key1 (.inr (u8_is 92 h2))]
    rfl
  have key := key0 (fun h => h.elim (u8_isnt 34 h1) (u8_isnt 92 h2))
  unfold escX at key
  refine e_ifd E (fun h3 => ?_) (fun h3 => ?_) <;> simp only [go_sem]
  · rw [key, if_pos (u8_is 110 h3)]; rfl
  rw [if_neg (u8_isnt 110 h3)] at key
  refine e_ifd E (fun h4 => ?_) (fun h4 => ?_) <;> simp only [go_sem]
  · rw [key, if_pos (u8_is 116 h4)]; rfl
  rw [if_neg (u8_isnt 116 h4)] at key
  refine e_ifd E (fun h5 => ?_) (fun h5 => ?_) <;> simp only [go_sem]
  rotate_left
  · rw [key, if_neg (u8_isnt 120 h5)]; rfl
  rw [if_pos (u8_is 120 h5)] at key
  refine e_ifd E (fun h6 => ?_) (fun h6 => ?_) <;> simp only [go_sem]
  · have h7 : escS (c :: r) = (0, 0) := by
      match r, h6, key with
      | [], _, key => exact key
      | [_], _, key => exact key
      | _ :: _ :: _, h6, _ => simp only [List.length_cons] at h6; omega
    rw [h7]; rfl
  obtain ⟨a, b, r', rfl⟩ : ∃ a b r', r = a :: b :: r' := by
    match r, h6 with
    | [], h6 => exact absurd (by simp) h6
    | [_], h6 => exact absurd (by simp) h6
    | a :: b :: r', _ => exact ⟨a, b, r', rfl⟩
  simp only at key
  refine region_xv mixed E fun X => ?_
  simp only [go_sem]
  have ha := hex_lt a
  have hb := hex_lt b
  refine ⟨by omega, ?_⟩
  rw [show (c :: a :: b :: r').getD 1 0 = a from rfl]
  refine x_call X (f214_ok hexB a) rfl rfl (by simp) ?_
  simp only [go_sem]
  refine ⟨by omega, ?_⟩
  rw [show (c :: a :: b :: r').getD 2 0 = b from rfl]
  refine x_call X (f214_ok hexB b) rfl rfl (by simp) ?_
  simp only [go_sem]
  generalize Lib.indexByte hexB a = x at ha key
  generalize Lib.indexByte hexB b = y at hb key
  refine ⟨by decide +kernel, ?_⟩
  repeat (first
    | (apply e_gm E; (· simp only [go_sem]); (· intro h; (try simp only [Bool.and_eq_true, Bool.not_eq_true', Bool.not_eq_false'] at h); simp only [↓h, go_sem]; rfl); simp only [go_sem])
    | (apply e_gpk E; (· simp only [go_sem]); (· intro h; (try simp only [Bool.and_eq_true, Bool.not_eq_true', Bool.not_eq_false'] at h); simp only [↓h, go_sem]; rfl); (· intro h; (try simp only [Bool.and_eq_true, Bool.not_eq_true', Bool.not_eq_false'] at h); simp only [↓h, go_sem]; rfl); simp only [go_sem])
    | (apply e_gm2 E; (· simp only [go_sem]); (· rfl); (· intro h h'; (try simp only [Bool.and_eq_true, Bool.not_eq_true', Bool.not_eq_false'] at h h'); simp only [↓h, ↓h', go_sem]; rfl); simp only [go_sem])
    | (apply e_gpk2 E; (· simp only [go_sem]); (· rfl); (· intro h h'; (try simp only [Bool.and_eq_true, Bool.not_eq_true', Bool.not_eq_false'] at h h'); simp only [↓h, ↓h', go_sem]; rfl); (· intro h h'; (try simp only [Bool.and_eq_true, Bool.not_eq_true', Bool.not_eq_false'] at h h'); simp only [↓h, ↓h', go_sem]; rfl); simp only [go_sem])
    | (apply e_pk E; (· decide); simp only [go_sem]))
  refine e_if E (fun h7 => ?_) (fun h7 => ?_) <;> simp only [go_sem]
  · rw [key, if_pos (by simpa using h7)]; rfl
  · have h8 : 0 ≤ x ∧ 0 ≤ y := by
      have : ¬ (x < 0 ∨ y < 0) := by simpa using h7
      omega
    rw [key, if_neg (by omega), w64_in (n := 16 * x) ⟨by omega, by omega⟩, w64_in ⟨by omega, by omega⟩]
    obtain ⟨n, hn⟩ : ∃ n : Nat, 16 * x + y = n := ⟨(16 * x + y).toNat, by omega⟩
    rw [hn, Int.toNat_natCast]
    have h9 : n < 256 := by omega
    have h10 : IntKind.u8.wrap (n : Int) = ((UInt8.ofNat n).toNat : Nat) := by
      rw [UInt8.toNat_ofNat']
      simp [IntKind.wrap, IntKind.bits, IntKind.signed]
    rw [h10]
    rfl
def bldO : List UInt8 → List (Name × Ob)
  | [] => bld0
  | c :: r => bldL (c :: r)
theorem bldO_snoc (l : List UInt8) (c : UInt8) : bldO (l ++ [c]) = bldL (l ++ [c]) := by cases l <;> rfl
structure TkI (s : List UInt8) (i : Nat) (acc : List UInt8) (m : Nat) : Prop where
  h1 : 1 ≤ i
  hi : i ≤ s.length
  ha : acc.length ≤ i
  hm : (s.drop i).length < m
  he : takeG m (s.drop i) i acc = takeS s
theorem TkI.init {c : UInt8} {r : List UInt8} (hc : c = 34) : TkI (c :: r) 1 [] r.length.succ :=
  ⟨Nat.le_refl _, by simp, by simp, by simp, by simp only [List.drop_succ_cons, List.drop_zero, takeS, if_pos hc]⟩
theorem TkI.fin {s : List UInt8} {i m : Nat} {acc : List UInt8} (h : TkI s i acc m) (hi : s.length ≤ i) : takeS s = ([], 0, 5) := by
  rw [← h.he, List.drop_eq_nil_of_le hi]
  cases m <;> rfl
theorem TkI.cases {s : List UInt8} {i m : Nat} {acc : List UInt8} (h : TkI s i acc m) (hi : i < s.length) : ∃ m', m = m' + 1 ∧ s.drop i = s.getD i 0 :: s.drop (i + 1) := by
  obtain ⟨m', rfl⟩ : ∃ m', m = m' + 1 := ⟨m - 1, by have := h.hm; omega⟩
  exact ⟨m', rfl, by rw [List.drop_eq_getElem_cons hi]; simp [hi]⟩
theorem TkI.mark {s : List UInt8} {i m : Nat} {acc : List UInt8} (h : TkI s i acc m) (hi : i < s.length) (hc : s.getD i 0 = 34) : takeS s = if 200 < acc.length then ([], 0, 7) else (acc, i + 1, 0) := by
  obtain ⟨m', rfl, hd⟩ := h.cases hi
  rw [← h.he, hd, takeG, if_pos hc]
theorem TkI.bad {s : List UInt8} {i m : Nat} {acc : List UInt8} (h : TkI s i acc m) (hi : i < s.length) (hc : ¬ s.getD i 0 = 34) (hs : s.getD i 0 = 92) (he : (escS (s.drop (i + 1))).2 = 0) : takeS s = ([], 0, 5) := by
  obtain ⟨m', rfl, hd⟩ := h.cases hi
  rw [← h.he, hd, takeG, if_neg hc, if_pos hs, if_pos he]
theorem TkI.odd {s : List UInt8} {i m : Nat} {acc : List UInt8} (h : TkI s i acc m) (hi : i < s.length) (hc : ¬ s.getD i 0 = 34) (hs : ¬ s.getD i 0 = 92) (hp : plainB (s.getD i 0) = false) : takeS s = ([], 0, 5) := by
  obtain ⟨m', rfl, hd⟩ := h.cases hi
  rw [← h.he, hd, takeG, if_neg hc, if_neg hs, if_neg (by rw [hp]; simp)]
theorem TkI.esc {s : List UInt8} {i m : Nat} {acc : List UInt8} (h : TkI s i acc m) (hi : i < s.length) (hc : ¬ s.getD i 0 = 34) (hs : s.getD i 0 = 92) (he : ¬ (escS (s.drop (i + 1))).2 = 0) :
    TkI s (i + (escS (s.drop (i + 1))).2 + 1) (acc ++ [(escS (s.drop (i + 1))).1]) (m - 1) := by
  obtain ⟨m', rfl, hd⟩ := h.cases hi
  have hl := esc_le (s.drop (i + 1))
  rw [List.length_drop] at hl
  have hm := h.hm
  have ha := h.ha
  rw [List.length_drop] at hm
  refine ⟨by omega, by omega, by simp; omega, by rw [List.length_drop]; omega, ?_⟩
  rw [← h.he, hd, takeG, if_neg hc, if_pos hs, if_neg he, List.drop_drop, Nat.add_sub_cancel]
  congr 2
  omega
theorem TkI.plain {s : List UInt8} {i m : Nat} {acc : List UInt8} (h : TkI s i acc m) (hi : i < s.length) (hc : ¬ s.getD i 0 = 34) (hs : ¬ s.getD i 0 = 92) (hp : plainB (s.getD i 0) = true) : TkI s (i + 1) (acc ++ [s.getD i 0]) (m - 1) := by
  obtain ⟨m', rfl, hd⟩ := h.cases hi
  have hm := h.hm
  have ha := h.ha
  rw [List.length_drop] at hm
  refine ⟨by omega, by omega, by simp; omega, by rw [List.length_drop]; omega, ?_⟩
  rw [← h.he, hd, takeG, if_neg hc, if_neg hs, if_pos hp, Nat.add_sub_cancel]
set_option maxHeartbeats 1000000 in
theorem f268_ok {G} (s : List UInt8) (hl : s.length ≤ 1000000) : HP Tryz.prog G 268 [.str s] (fun r => r = .tup [.d (.str (takeS s).1), .d (i64 (takeS s).2.1), .d (i64 (takeS s).2.2)]) := by
  refine funP_ok Tryz.func268 rfl (by decide +kernel) (by simp [Tryz.ntmps268]) (veil fun E => ?_)
  simp only [go_sem]
  cases s with
  | nil =>
    simp only [go_sem]
    rfl
  | cons c r =>
  refine e_gif E (fun h => absurd h (by simp)) (fun h => ?_) <;> simp only [go_sem]
  refine ⟨by simp, ?_⟩
  refine e_ifd E (fun h1 => ?_) (fun h1 => ?_) <;> simp only [go_sem]
  · have h2 : takeS (c :: r) = ([], 0, 5) := by
      unfold takeS
      simp only
      rw [if_neg (u8_isnt 34 h1)]
    rw [h2]; rfl
  have hc : c = 34 := Classical.byContradiction fun h => h1 (fun e => h (u8_is 34 e))
  obtain ⟨s, hs⟩ : ∃ s, s = c :: r := ⟨_, rfl⟩
  have hI0 := TkI.init (r := r) hc
  rw [← hs] at hl hI0
  simp only [← hs]
  refine loopT_e E (X := { x : Nat × List UInt8 × Nat // TkI s x.1 x.2.1 x.2.2 }) (fun x => [(0, .d (.str s)), (5, .at [0] 0), (6, .d (i64 x.1.1))]) (fun x => bldO x.1.2.1) [0, 1] (fun x => s.length - x.1.1) ⟨(1, [], r.length.succ), hI0⟩ (tau [([0], [5])]) ?_ ?_
  · unfold bldO bld0
    simp only [go_sem]
  rintro ⟨⟨i, acc, m⟩, hI⟩ E0
  refine hideQ E0 fun Q' hQ E' => ?_
  simp only at hI ⊢
  have hi := hI.hi
  have ha := hI.ha
  cases acc with
  | nil =>
    simp only [bldO]
    unfold bld0
    simp only [go_sem]
    refine e_ifd E' (fun h1 => ?_) (fun h1 => ?_) <;> simp only [go_sem]
    rotate_left
    · rw [hQ]
      simp only [go_sem]
      rw [← hs, hI.fin (by omega)]
      rfl
    have h1' : i < s.length := by omega
    refine ⟨⟨by omega, by omega⟩, ?_⟩
    refine e_ifd E' (fun h2 => ?_) (fun h2 => ?_) <;> simp only [go_sem]
    · have hmk := hI.mark h1' (u8_is 34 h2)
      refine e_callO E' [.at [0] 0] bld0 [0] f299_new rfl rfl ⟨by simp only [go_sem], by rw [mk_used]; decide⟩ rfl (by unfold bld0; simp only [go_sem]) (by unfold bld0; simp only [go_sem]) ?_
      rintro _ _ ⟨rfl, rfl⟩
      unfold bld0
      simp only [go_sem]
      refine e_callO E' [.at [0] 0] bld0 [0] f300_new rfl rfl ⟨by simp only [go_sem], by rw [mk_used]; decide⟩ rfl (by unfold bld0; simp only [go_sem]) (by unfold bld0; simp only [go_sem]) ?_
      rintro _ _ ⟨rfl, rfl⟩
      unfold bld0
      simp only [go_sem]
      rw [w64_in ⟨by omega, by omega⟩, hQ]
      simp only [go_sem]
      rw [← hs, hmk]
      rfl
    refine e_ifd E' (fun h3 => ?_) (fun h3 => ?_) <;> simp only [go_sem]
    · have h2n := u8_isnt 34 h2
      have h3y := u8_is 92 h3
      rw [w64_in (n := (i : Int) + 1) ⟨by omega, by omega⟩]
      refine ⟨⟨by omega, by omega⟩, ?_⟩
      rw [show ((i : Int) + 1).toNat = i + 1 by omega, List.take_of_length_le (l := s.drop (i + 1)) (by rw [List.length_drop]; omega)]
      have hel := esc_le (s.drop (i + 1))
      have hbad := hI.bad h1' h2n h3y
      have hesc := hI.esc h1' h2n h3y
      rw [List.length_drop] at hel
      refine e_call E' (f301_ok (s.drop (i + 1)) (by rw [List.length_drop]; omega)) rfl rfl (by simp) ?_
      rintro _ rfl
      obtain ⟨y, n, hyn⟩ : ∃ y n, escS (s.drop (i + 1)) = (y, n) := ⟨_, _, rfl⟩
      rw [hyn] at hel hbad hesc ⊢
      simp only at hel hbad hesc
      simp only [go_sem]
      refine e_ifd E' (fun h4 => ?_) (fun h4 => ?_) <;> simp only [go_sem]
      · rw [hQ]
        simp only [go_sem]
        rw [← hs, hbad (by omega)]
        rfl
      · have hI2 := hesc (by omega)
        refine e_callO E' [.at [0] 0, .d (byD y)] bld0 [0] (f302_new y ) rfl rfl ⟨by simp only [go_sem], by rw [mk_used]; decide⟩ rfl (by (unfold bld0); simp only [go_sem]) (by (unfold bld0); simp only [go_sem]) ?_
        rintro _ _ ⟨rfl, rfl⟩
        unfold bldM
        (unfold bld0)
        simp only [go_sem]
        rw [w64_in (n := (n : Int) + 1) ⟨by omega, by omega⟩, w64_in ⟨by omega, by omega⟩, hQ]
        simp only [go_sem]
        refine ⟨⟨(i + n + 1, [] ++ [y], m - 1), hI2⟩, by show s.length - (i + n + 1) < _; omega, tau [([1], [46, 2])], ?_⟩
        rw [show (⟨(i + n + 1, [] ++ [y], m - 1), hI2⟩ : { x : Nat × List UInt8 × Nat // TkI s x.1 x.2.1 x.2.2 }).1.2.1 = [] ++ [y] from rfl, bldO_snoc]
        unfold bldL
        simp only [go_sem]
        rw [show ((i + n + 1 : Nat) : Int) = (i : Int) + ((n : Int) + 1) by omega]
    · have h2n := u8_isnt 34 h2
      have h3n := u8_isnt 92 h3
      refine e_call E' (f303_ok (s.getD i 0)) rfl rfl (by simp) ?_
      rintro _ rfl
      simp only [go_sem]
      refine e_if E' (fun h4 => ?_) (fun h4 => ?_) <;> simp only [go_sem]
      · have hI2 := hI.plain h1' h2n h3n h4
        refine e_callO E' [.at [0] 0, .d (byD (s.getD i 0))] bld0 [0] (f302_new (s.getD i 0) ) rfl rfl ⟨by simp only [go_sem], by rw [mk_used]; decide⟩ rfl (by (unfold bld0); simp only [go_sem]) (by (unfold bld0); simp only [go_sem]) ?_
        rintro _ _ ⟨rfl, rfl⟩
        unfold bldM
        (unfold bld0)
        simp only [go_sem]
        rw [w64_in ⟨by omega, by omega⟩, hQ]
        simp only [go_sem]
        refine ⟨⟨(i + 1, [] ++ [s.getD i 0], m - 1), hI2⟩, by show s.length - (i + 1) < _; omega, tau [([1], [55, 2])], ?_⟩
        rw [show (⟨(i + 1, [] ++ [s.getD i 0], m - 1), hI2⟩ : { x : Nat × List UInt8 × Nat // TkI s x.1 x.2.1 x.2.2 }).1.2.1 = [] ++ [s.getD i 0] from rfl, bldO_snoc]
        unfold bldL
        simp only [go_sem]
        all_goals rfl
      · rw [hQ]
        simp only [go_sem]
        rw [← hs, hI.odd h1' h2n h3n h4]
        rfl
  | cons a0 acc0 =>
    simp only [bldO]
    obtain ⟨acc, hacc⟩ : ∃ acc, acc = a0 :: acc0 := ⟨_, rfl⟩
    have hne : acc ≠ [] := by rw [hacc]; simp
    rw [← hacc] at hI ha
    simp only [← hacc]
    unfold bldL
    simp only [go_sem]
    refine e_ifd E' (fun h1 => ?_) (fun h1 => ?_) <;> simp only [go_sem]
    rotate_left
    · rw [hQ]
      simp only [go_sem]
      rw [← hs, hI.fin (by omega)]
      rfl
    have h1' : i < s.length := by omega
    refine ⟨⟨by omega, by omega⟩, ?_⟩
    refine e_ifd E' (fun h2 => ?_) (fun h2 => ?_) <;> simp only [go_sem]
    · have hmk := hI.mark h1' (u8_is 34 h2)
      refine e_callO E' [.at [0] 0] (bldL acc) [0, 1] (f299_old acc) rfl rfl ⟨by simp only [go_sem], by rw [mk_used]; decide⟩ rfl (by unfold bldL; simp only [go_sem]) (by unfold bldL; simp only [go_sem]) ?_
      rintro _ _ ⟨rfl, rfl⟩
      unfold bldL
      simp only [go_sem]
      refine ⟨Nat.le_refl _, ?_⟩
      refine e_ifd E' (fun h5 => ?_) (fun h5 => ?_) <;> simp only [go_sem]
      · rw [hQ]
        simp only [go_sem]
        rw [← hs, hmk, if_pos (by omega)]
        rfl
      refine e_callO E' [.at [0] 0] (bldL acc) [0, 1] (f300_old acc hne (by omega)) rfl rfl ⟨by simp only [go_sem], by rw [mk_used]; decide⟩ rfl (by unfold bldL; simp only [go_sem]) (by unfold bldL; simp only [go_sem]) ?_
      rintro _ _ ⟨rfl, rfl⟩
      unfold bldL
      simp only [go_sem]
      rw [w64_in ⟨by omega, by omega⟩, hQ]
      simp only [go_sem]
      rw [← hs, hmk, if_neg (by omega)]
      rfl
    refine e_ifd E' (fun h3 => ?_) (fun h3 => ?_) <;> simp only [go_sem]
    · have h2n := u8_isnt 34 h2
      have h3y := u8_is 92 h3
      rw [w64_in (n := (i : Int) + 1) ⟨by omega, by omega⟩]
      refine ⟨⟨by omega, by omega⟩, ?_⟩
      rw [show ((i : Int) + 1).toNat = i + 1 by omega, List.take_of_length_le (l := s.drop (i + 1)) (by rw [List.length_drop]; omega)]
      have hel := esc_le (s.drop (i + 1))
      have hbad := hI.bad h1' h2n h3y
      have hesc := hI.esc h1' h2n h3y
      rw [List.length_drop] at hel
      refine e_call E' (f301_ok (s.drop (i + 1)) (by rw [List.length_drop]; omega)) rfl rfl (by simp) ?_
      rintro _ rfl
      obtain ⟨y, n, hyn⟩ : ∃ y n, escS (s.drop (i + 1)) = (y, n) := ⟨_, _, rfl⟩
      rw [hyn] at hel hbad hesc ⊢
      simp only at hel hbad hesc
      simp only [go_sem]
      refine e_ifd E' (fun h4 => ?_) (fun h4 => ?_) <;> simp only [go_sem]
      · rw [hQ]
        simp only [go_sem]
        rw [← hs, hbad (by omega)]
        rfl
      · have hI2 := hesc (by omega)
        refine e_callO E' [.at [0] 0, .d (byD y)] (bldL acc) [0, 1] (f302_old acc y (by omega)) rfl rfl ⟨by simp only [go_sem], by rw [mk_used]; decide⟩ rfl (by (unfold bldL); simp only [go_sem]) (by (unfold bldL); simp only [go_sem]) ?_
        rintro _ _ ⟨rfl, rfl⟩
        unfold bldM
        (unfold bldL)
        simp only [go_sem]
        rw [w64_in (n := (n : Int) + 1) ⟨by omega, by omega⟩, w64_in ⟨by omega, by omega⟩, hQ]
        simp only [go_sem]
        refine ⟨⟨(i + n + 1, acc ++ [y], m - 1), hI2⟩, by show s.length - (i + n + 1) < _; omega, tau [([1], [46, 2])], ?_⟩
        rw [show (⟨(i + n + 1, acc ++ [y], m - 1), hI2⟩ : { x : Nat × List UInt8 × Nat // TkI s x.1 x.2.1 x.2.2 }).1.2.1 = acc ++ [y] from rfl, bldO_snoc]
        unfold bldL
        simp only [go_sem]
        rw [show ((i + n + 1 : Nat) : Int) = (i : Int) + ((n : Int) + 1) by omega]
    · have h2n := u8_isnt 34 h2
      have h3n := u8_isnt 92 h3
      refine e_call E' (f303_ok (s.getD i 0)) rfl rfl (by simp) ?_
      rintro _ rfl
      simp only [go_sem]
      refine e_if E' (fun h4 => ?_) (fun h4 => ?_) <;> simp only [go_sem]
      · have hI2 := hI.plain h1' h2n h3n h4
        refine e_callO E' [.at [0] 0, .d (byD (s.getD i 0))] (bldL acc) [0, 1] (f302_old acc (s.getD i 0) (by omega)) rfl rfl ⟨by simp only [go_sem], by rw [mk_used]; decide⟩ rfl (by (unfold bldL); simp only [go_sem]) (by (unfold bldL); simp only [go_sem]) ?_
        rintro _ _ ⟨rfl, rfl⟩
        unfold bldM
        (unfold bldL)
        simp only [go_sem]
        rw [w64_in ⟨by omega, by omega⟩, hQ]
        simp only [go_sem]
        refine ⟨⟨(i + 1, acc ++ [s.getD i 0], m - 1), hI2⟩, by show s.length - (i + 1) < _; omega, tau [([1], [55, 2])], ?_⟩
        rw [show (⟨(i + 1, acc ++ [s.getD i 0], m - 1), hI2⟩ : { x : Nat × List UInt8 × Nat // TkI s x.1 x.2.1 x.2.2 }).1.2.1 = acc ++ [s.getD i 0] from rfl, bldO_snoc]
        unfold bldL
        simp only [go_sem]
        all_goals rfl
      · rw [hQ]
        simp only [go_sem]
        rw [← hs, hI.odd h1' h2n h3n h4]
        rfl
theorem gr_yes {c : UInt8} (h1 : 65 ≤ ((c.toNat : Nat) : Int)) (h2 : ((c.toNat : Nat) : Int) ≤ 90) : gr c = true := by
  show (decide (65 ≤ ((c.toNat : Nat) : Int)) && decide (((c.toNat : Nat) : Int) ≤ 90)) = true
  simp [h1, h2]
theorem gr_no1 {c : UInt8} (h1 : ¬ 65 ≤ ((c.toNat : Nat) : Int)) : ¬ gr c = true := by
  show ¬ (decide (65 ≤ ((c.toNat : Nat) : Int)) && decide (((c.toNat : Nat) : Int) ≤ 90)) = true
  simp [h1]
theorem gr_no2 {c : UInt8} (h2 : ¬ ((c.toNat : Nat) : Int) ≤ 90) : ¬ gr c = true := by
  show ¬ (decide (65 ≤ ((c.toNat : Nat) : Int)) && decide (((c.toNat : Nat) : Int) ≤ 90)) = true
  simp [h2]
theorem f216_ok {G} (s : List UInt8) (n : Nat) (_hl : s.length ≤ 1000000) (h1 : 1 ≤ n) (hn : n ≤ s.length) : HP Tryz.prog G 216 [.str s, i64 n] (fun r => r = .d (fndD (wordS s n))) := by
  refine funP_ok Tryz.func216 rfl (by decide +kernel) (by simp [Tryz.ntmps216]) (veil fun E => ?_)
  simp only [go_sem]
  refine ⟨⟨by omega, by omega⟩, ?_⟩
  rw [Nat.sub_zero]
  have hw : (s.take n).length = n := by rw [List.length_take]; omega
  obtain ⟨w, hwd⟩ : ∃ w, w = s.take n := ⟨_, rfl⟩
  rw [← hwd] at hw
  have hdef : wordS s n = if 20 < n then badF 7 else if isKw w then ⟨⟨1, w, 0, 0⟩, n, 0⟩ else if gr (w.getD 0 0) then ⟨⟨3, w, 0, 0⟩, n, 0⟩ else ⟨⟨2, w, 0, 0⟩, n, 0⟩ := by rw [hwd]; rfl
  rw [← hwd]
  refine e_ifd E (fun h2 => ?_) (fun h2 => ?_) <;> simp only [go_sem]
  · rw [hdef, if_pos (by omega)]; rfl
  rw [if_neg (by omega)] at hdef
  refine e_call E (f227_ok w) rfl rfl (by simp) ?_
  rintro _ rfl
  simp only [go_sem]
  refine e_if E (fun h3 => ?_) (fun h3 => ?_) <;> simp only [go_sem]
  · rw [hdef, if_pos h3]; rfl
  rw [if_neg (by rw [h3]; simp)] at hdef
  refine ⟨by omega, ?_⟩
  refine e_gifd E (fun h4 => ?_) (fun h4 => ?_) <;> simp only [go_sem]
  · refine ⟨by omega, ?_⟩
    refine e_ifd E (fun h5 => ?_) (fun h5 => ?_) <;> simp only [go_sem]
    · rw [hdef, if_pos (gr_yes h4 h5)]; rfl
    · rw [hdef, if_neg (gr_no2 h5)]; rfl
  · rw [hdef, if_neg (gr_no1 h4)]; rfl
theorem f218_ok {G} (c : UInt8) : HP Tryz.prog G 218 [u8 c] (fun r => r = .d (.bool (isDig c))) := by
  unfold u8
  refine funP_ok Tryz.func218 rfl (by decide +kernel) (by simp [Tryz.ntmps218]) (veil fun E => ?_)
  simp only [go_sem]
  repeat (first
    | (apply e_gm E; (· simp only [go_sem]); (· intro h; (try simp only [Bool.and_eq_true, Bool.not_eq_true', Bool.not_eq_false'] at h); simp only [↓h, go_sem]; rfl); simp only [go_sem])
    | (apply e_gpk E; (· simp only [go_sem]); (· intro h; (try simp only [Bool.and_eq_true, Bool.not_eq_true', Bool.not_eq_false'] at h); simp only [↓h, go_sem]; rfl); (· intro h; (try simp only [Bool.and_eq_true, Bool.not_eq_true', Bool.not_eq_false'] at h); simp only [↓h, go_sem]; rfl); simp only [go_sem])
    | (apply e_gm2 E; (· simp only [go_sem]); (· rfl); (· intro h h'; (try simp only [Bool.and_eq_true, Bool.not_eq_true', Bool.not_eq_false'] at h h'); simp only [↓h, ↓h', go_sem]; rfl); simp only [go_sem])
    | (apply e_gpk2 E; (· simp only [go_sem]); (· rfl); (· intro h h'; (try simp only [Bool.and_eq_true, Bool.not_eq_true', Bool.not_eq_false'] at h h'); simp only [↓h, ↓h', go_sem]; rfl); (· intro h h'; (try simp only [Bool.and_eq_true, Bool.not_eq_true', Bool.not_eq_false'] at h h'); simp only [↓h, ↓h', go_sem]; rfl); simp only [go_sem])
    | (apply e_pk E; (· decide); simp only [go_sem]))
  have hp : (decide (48 ≤ ((c.toNat : Nat) : Int)) && decide (((c.toNat : Nat) : Int) ≤ 57)) = isDig c := by
    unfold isDig
    rw [Bool.eq_iff_iff]; simp; omega
  rw [hp]
theorem f220_ok {G} (s : List UInt8) (hl : s.length ≤ 1000000) : HP Tryz.prog G 220 [.str s] (fun r => r = .d (fndD (textS s))) := by
  refine funP_ok Tryz.func220 rfl (by decide +kernel) (by simp [Tryz.ntmps220]) (veil fun E => ?_)
  simp only [go_sem]
  refine e_call E (f268_ok s hl) rfl rfl (by simp) ?_
  rintro _ rfl
  simp only [go_sem]
  rfl
theorem parR_eq (s : List UInt8) : parseR s = .tup [.d (i64 (parZ s).1), .d (i64 (parZ s).2)] := by
  unfold parseR parZ
  have key : ∀ (b : Bool) (l : List UInt8), parseR2 b l = .tup [.d (i64 (parZ2 b l).1), .d (i64 (parZ2 b l).2)] := fun b l => by
    unfold parseR2 parZ2
    cases parseOk b l <;> rfl
  split <;> exact key _ _
theorem digN_drop {s : List UInt8} {n : Nat} (h : n < s.length) : digN (s.drop n) = if isDig (s.getD n 0) then digN (s.drop (n + 1)) + 1 else 0 := by
  rw [List.drop_eq_getElem_cons h, digN]
  simp [h]
theorem f219_ok {G} (s : List UInt8) (hl : s.length ≤ 1000000) (h0 : 1 ≤ s.length) : HP Tryz.prog G 219 [.str s] (fun r => r = .d (fndD (numS s))) := by
  refine funP_ok Tryz.func219 rfl (by decide +kernel) (by simp [Tryz.ntmps219]) (veil fun E => ?_)
  simp only [go_sem]
  have hle := digN_le (s.drop 1)
  rw [List.length_drop] at hle
  refine loopT_e E (X := { n : Nat // 1 ≤ n ∧ n ≤ s.length ∧ n + digN (s.drop n) = digN (s.drop 1) + 1 }) (fun x => [(0, .d (.str s)), (2, .at [2] 0), (3, .d (i64 x.1))]) (fun x => [([2], .box [.d (i64 0), .d (.str []), .d (i64 0), .d (i64 0), .d (i64 0), .d (i64 0)])]) [2] (fun x => s.length - x.1) ⟨1, by omega, by omega, by omega⟩ id ?_ ?_
  · simp only [go_sem]
    all_goals rfl
  rintro ⟨n, hn1, hn2, hn3⟩ E0
  refine hideQ E0 fun Q' hQ E' => ?_
  simp only at hn1 hn2 hn3 ⊢
  simp only [go_sem]
  refine e_gifd E' (fun h1 => ?_) (fun h1 => ?_) <;> simp only [go_sem]
  · have h1' : n < s.length := by omega
    refine ⟨⟨by omega, by omega⟩, ?_⟩
    refine e_call E' (f218_ok (s.getD n 0)) rfl rfl (by simp) ?_
    rintro _ rfl
    simp only [go_sem]
    have hd := digN_drop h1'
    refine e_if E' (fun h2 => ?_) (fun h2 => ?_) <;> simp only [go_sem]
    · rw [w64_in ⟨by omega, by omega⟩, hQ]
      simp only [go_sem]
      rw [h2, if_pos rfl] at hd
      refine ⟨⟨n + 1, by omega, by omega, by omega⟩, by show s.length - (n + 1) < _; omega, id, ?_⟩
      simp only [go_sem]
      rfl
    · rw [h2] at hd
      have hn4 : n = digN (s.drop 1) + 1 := by simp at hd; omega
      rw [hQ]
      simp only [go_sem]
      refine ⟨⟨by omega, by omega⟩, ?_⟩
      rw [Nat.sub_zero]
      refine e_call E (f267_ok (s.take n)) rfl rfl (by simp) ?_
      rintro _ rfl
      rw [parR_eq]
      simp only [go_sem]
      rw [hn4]
      rfl
  · have hn4 : n = digN (s.drop 1) + 1 := by
      have : n = s.length := by omega
      rw [this, List.drop_length] at hn3
      simp [digN] at hn3
      omega
    rw [hQ]
    simp only [go_sem]
    refine ⟨⟨by omega, by omega⟩, ?_⟩
    rw [Nat.sub_zero]
    refine e_call E (f267_ok (s.take n)) rfl rfl (by simp) ?_
    rintro _ rfl
    rw [parR_eq]
    simp only [go_sem]
    rw [hn4]
    rfl
theorem f217_ok {G} (s : List UInt8) (hl : s.length ≤ 1000000) (h0 : 1 ≤ s.length) : HP Tryz.prog G 217 [.str s] (fun r => r = .d (fndD (varS s))) := by
  have hwl := wordN_le (s.drop 1)
  rw [List.length_drop] at hwl
  refine funP_ok Tryz.func217 rfl (by decide +kernel) (by simp [Tryz.ntmps217]) (veil fun E => ?_)
  simp only [go_sem]
  refine ⟨⟨by omega, by omega⟩, ?_⟩
  rw [List.take_of_length_le (l := s.drop 1) (by rw [List.length_drop]; omega)]
  refine e_call E (f215_ok (s.drop 1) (by rw [List.length_drop]; omega)) rfl rfl (by simp) ?_
  rintro _ rfl
  simp only [go_sem]
  have hdef : varS s = if wordN (s.drop 1) = 0 ∨ gr (s.getD 1 0) then badF 5 else if 20 < wordN (s.drop 1) then badF 7 else ⟨⟨6, (s.drop 1).take (wordN (s.drop 1)), 0, 0⟩, wordN (s.drop 1) + 1, 0⟩ := rfl
  generalize wordN (s.drop 1) = n at hdef hwl
  refine e_gifd E (fun h1 => ?_) (fun h1 => ?_) <;> simp only [go_sem]
  · rw [hdef, if_pos (.inl (by omega))]; rfl
  refine ⟨by omega, ?_⟩
  have more : ∀ h : ¬ gr (s.getD 1 0) = true, varS s = if 20 < n then badF 7 else ⟨⟨6, (s.drop 1).take n, 0, 0⟩, n + 1, 0⟩ := fun h => by rw [hdef, if_neg (fun e => e.elim (by omega) h)]
  refine e_gifd E (fun h2 => ?_) (fun h2 => ?_) <;> simp only [go_sem]
  · refine ⟨by omega, ?_⟩
    refine e_ifd E (fun h3 => ?_) (fun h3 => ?_) <;> simp only [go_sem]
    · rw [hdef, if_pos (.inr (gr_yes h2 h3))]; rfl
    have hm := more (gr_no2 h3)
    refine e_ifd E (fun h4 => ?_) (fun h4 => ?_) <;> simp only [go_sem]
    · rw [hm, if_pos (by omega)]; rfl
    rw [w64_in ⟨by omega, by omega⟩]
    refine ⟨⟨by omega, by omega⟩, ?_⟩
    rw [hm, if_neg (by omega), show ((n : Int) + 1).toNat - 1 = n by omega]
    rfl
  · have hm := more (gr_no1 h2)
    refine e_ifd E (fun h4 => ?_) (fun h4 => ?_) <;> simp only [go_sem]
    · rw [hm, if_pos (by omega)]; rfl
    rw [w64_in ⟨by omega, by omega⟩]
    refine ⟨⟨by omega, by omega⟩, ?_⟩
    rw [hm, if_neg (by omega), show ((n : Int) + 1).toNat - 1 = n by omega]
    rfl
theorem f221_ok {G} (s : List UInt8) (hl : s.length ≤ 1000000) (h0 : 1 ≤ s.length) : HP Tryz.prog G 221 [.str s] (fun r => r = .d (fndD (signS s))) := by
  refine funP_ok Tryz.func221 rfl (by decide +kernel) (by simp [Tryz.ntmps221]) (veil fun E => ?_)
  simp only [go_sem]
  refine e_call E (f269_ok s [45, 62]) rfl rfl (by simp) ?_
  rintro _ rfl
  simp only [go_sem]
  have hdef : signS s = if hasPre s [45, 62] || hasPre s [61, 61] then ⟨⟨7, s.take 2, 0, 0⟩, 2, 0⟩ else if Lib.indexByte signB (s.getD 0 0) < 0 then badF 5 else ⟨⟨7, s.take 1, 0, 0⟩, 1, 0⟩ := rfl
  refine e_gif E (fun h1 => ?_) (fun h1 => ?_) <;> simp only [go_sem]
  · have := hasPre_len h1
    simp only [List.length_cons, List.length_nil] at this
    refine ⟨by omega, ?_⟩
    rw [hdef, h1]; rfl
  refine e_call E (f269_ok s [61, 61]) rfl rfl (by simp) ?_
  rintro _ rfl
  simp only [go_sem]
  refine e_if E (fun h2 => ?_) (fun h2 => ?_) <;> simp only [go_sem]
  · have := hasPre_len h2
    simp only [List.length_cons, List.length_nil] at this
    refine ⟨by omega, ?_⟩
    rw [hdef, h2, Bool.or_true]; rfl
  rw [h1, h2, Bool.or_false, if_neg (by simp)] at hdef
  refine ⟨by omega, ?_⟩
  refine e_call E (f214_ok signB (s.getD 0 0)) rfl rfl (by simp) ?_
  rintro _ rfl
  simp only [go_sem]
  refine e_ifd E (fun h3 => ?_) (fun h3 => ?_) <;> simp only [go_sem]
  · rw [hdef, if_pos h3]; rfl
  refine ⟨by omega, ?_⟩
  rw [hdef, if_neg h3]; rfl
theorem fnd_eq (f : Fnd) : fndD f = .agg [i64 f.t.k, .str f.t.s, i64 f.t.n, i64 f.t.pos, i64 f.n, i64 f.e] := rfl
theorem f146_ok {G} (s : List UInt8) (hl : s.length ≤ 1000000) (h0 : 1 ≤ s.length) : HP Tryz.prog G 146 [.str s] (fun r => r = .d (fndD (oneS s))) := by
  have hwl := wordN_le s
  refine funP_ok Tryz.func146 rfl (by decide +kernel) (by simp [Tryz.ntmps146]) (veil fun E => ?_)
  simp only [go_sem]
  refine e_call E (f215_ok s (by omega)) rfl rfl (by simp) ?_
  rintro _ rfl
  simp only [go_sem]
  have hdef : oneS s = if 0 < wordN s then wordS s (wordN s) else if s.getD 0 0 = 39 then varS s else if isDig (s.getD 0 0) || decide (s.getD 0 0 = 126) then numS s else if s.getD 0 0 = 34 then textS s else signS s := rfl
  generalize wordN s = n at hdef hwl
  generalize hc : s.getD 0 0 = c at hdef
  refine e_ifd E (fun h1 => ?_) (fun h1 => ?_) <;> simp only [go_sem]
  · refine e_call E (f216_ok s n hl (by omega) hwl) rfl rfl (by simp) ?_
    rintro _ rfl
    rw [fnd_eq (wordS s n)]
    simp only [go_sem]
    rw [hdef, if_pos (by omega)]; rfl
  rw [if_neg (by omega)] at hdef
  refine ⟨by omega, ?_⟩
  rw [hc]
  refine e_ifd E (fun h2 => ?_) (fun h2 => ?_) <;> simp only [go_sem]
  · refine e_call E (f217_ok s hl h0) rfl rfl (by simp) ?_
    rintro _ rfl
    rw [fnd_eq (varS s)]
    simp only [go_sem]
    rw [hdef, if_pos (u8_is 39 h2)]; rfl
  rw [if_neg (u8_isnt 39 h2)] at hdef
  refine e_call E (f218_ok c) rfl rfl (by simp) ?_
  rintro _ rfl
  simp only [go_sem]
  repeat (first
    | (apply e_gm E; (· simp only [go_sem]); (· intro h; (try simp only [Bool.and_eq_true, Bool.not_eq_true', Bool.not_eq_false'] at h); simp only [↓h, go_sem]; rfl); simp only [go_sem])
    | (apply e_gpk E; (· simp only [go_sem]); (· intro h; (try simp only [Bool.and_eq_true, Bool.not_eq_true', Bool.not_eq_false'] at h); simp only [↓h, go_sem]; rfl); (· intro h; (try simp only [Bool.and_eq_true, Bool.not_eq_true', Bool.not_eq_false'] at h); simp only [↓h, go_sem]; rfl); simp only [go_sem])
    | (apply e_gm2 E; (· simp only [go_sem]); (· rfl); (· intro h h'; (try simp only [Bool.and_eq_true, Bool.not_eq_true', Bool.not_eq_false'] at h h'); simp only [↓h, ↓h', go_sem]; rfl); simp only [go_sem])
    | (apply e_gpk2 E; (· simp only [go_sem]); (· rfl); (· intro h h'; (try simp only [Bool.and_eq_true, Bool.not_eq_true', Bool.not_eq_false'] at h h'); simp only [↓h, ↓h', go_sem]; rfl); (· intro h h'; (try simp only [Bool.and_eq_true, Bool.not_eq_true', Bool.not_eq_false'] at h h'); simp only [↓h, ↓h', go_sem]; rfl); simp only [go_sem])
    | (apply e_pk E; (· decide); simp only [go_sem]))
  refine e_if E (fun h3 => ?_) (fun h3 => ?_) <;> simp only [go_sem]
  · refine e_call E (f219_ok s hl h0) rfl rfl (by simp) ?_
    rintro _ rfl
    rw [fnd_eq (numS s)]
    simp only [go_sem]
    have h4 : (isDig c || decide (c = 126)) = true := by
      simp only [Bool.or_eq_true, decide_eq_true_eq] at h3 ⊢
      rcases h3 with h3 | h3
      · exact .inl h3
      · exact .inr (u8_is 126 h3)
    rw [hdef, if_pos h4]; rfl
  have h4 : ¬ (isDig c || decide (c = 126)) = true := by
    simp only [Bool.or_eq_false_iff, decide_eq_false_iff_not] at h3
    simp only [Bool.or_eq_true, decide_eq_true_eq, not_or]
    exact ⟨by rw [h3.1]; simp, u8_isnt 126 h3.2⟩
  rw [if_neg h4] at hdef
  refine e_ifd E (fun h5 => ?_) (fun h5 => ?_) <;> simp only [go_sem]
  · refine e_call E (f220_ok s hl) rfl rfl (by simp) ?_
    rintro _ rfl
    rw [fnd_eq (textS s)]
    simp only [go_sem]
    rw [hdef, if_pos (u8_is 34 h5)]; rfl
  rw [if_neg (u8_isnt 34 h5)] at hdef
  refine e_call E (f221_ok s hl h0) rfl rfl (by simp) ?_
  rintro _ rfl
  rw [fnd_eq (signS s)]
  simp only [go_sem]
  rw [hdef]; rfl
theorem feed_ib : ∀ l : List UInt8, Lib.indexByte l 10 = match feedN l with
    | none => -1
    | some k => (k : Int)
  | [] => rfl
  | c :: r => by
    unfold Lib.indexByte feedN
    by_cases h : c = 10
    · simp [h]
    · rw [if_neg (by simpa using h), if_neg h, feed_ib r]
      cases feedN r with
      | none => rfl
      | some k =>
        simp only [Option.map_some]
        rw [if_neg (by simp)]
        show (k : Int) + 1 = ((k + 1 : Nat) : Int)
        omega
theorem feed_le : ∀ {l : List UInt8} {k : Nat}, feedN l = some k → k < l.length
  | [], _, h => by cases h
  | c :: r, k, h => by
    unfold feedN at h
    split at h
    · cases h; simp
    · obtain ⟨j, hj, rfl⟩ := Option.map_eq_some_iff.1 h
      have := feed_le hj
      simp only [List.length_cons]; omega
theorem feed_pos {c : UInt8} {r : List UInt8} {k : Nat} (hc : ¬ c = 10) (h : feedN (c :: r) = some k) : 1 ≤ k := by
  unfold feedN at h
  rw [if_neg hc] at h
  obtain ⟨j, _, rfl⟩ := Option.map_eq_some_iff.1 h
  omega
theorem blank_ib (c : UInt8) : 0 ≤ Lib.indexByte blankB c ↔ c = 32 ∨ c = 9 ∨ c = 10 := by
  unfold blankB
  by_cases h1 : c = 32
  · subst h1; decide
  by_cases h2 : c = 9
  · subst h2; decide
  by_cases h3 : c = 10
  · subst h3; decide
  simp [Lib.indexByte, Ne.symm h1, Ne.symm h2, Ne.symm h3, h1, h2, h3]
structure PaI (s : List UInt8) (n m : Nat) : Prop where
  hn : n ≤ s.length
  hm : (s.drop n).length < m
  he : n + passG m (s.drop n) = passS s
theorem PaI.init (s : List UInt8) : PaI s 0 s.length.succ := ⟨Nat.zero_le _, by simp, by simp [passS]⟩
theorem PaI.fin {s : List UInt8} {n m : Nat} (h : PaI s n m) (hn : s.length ≤ n) : passS s = n := by
  rw [← h.he, List.drop_eq_nil_of_le hn]
  cases m <;> rfl
theorem PaI.cases {s : List UInt8} {n m : Nat} (h : PaI s n m) (hi : n < s.length) : ∃ m', m = m' + 1 ∧ s.drop n = s.getD n 0 :: s.drop (n + 1) := by
  obtain ⟨m', rfl⟩ : ∃ m', m = m' + 1 := ⟨m - 1, by have := h.hm; omega⟩
  exact ⟨m', rfl, by rw [List.drop_eq_getElem_cons hi]; simp [hi]⟩
theorem PaI.blank {s : List UInt8} {n m : Nat} (h : PaI s n m) (hi : n < s.length) (hb : s.getD n 0 = 32 ∨ s.getD n 0 = 9 ∨ s.getD n 0 = 10) : PaI s (n + 1) (m - 1) := by
  obtain ⟨m', rfl, hd⟩ := h.cases hi
  have hm := h.hm
  rw [List.length_drop] at hm
  refine ⟨by omega, by rw [List.length_drop]; omega, ?_⟩
  rw [← h.he, hd, passG, if_pos hb, Nat.add_sub_cancel]
  omega
theorem PaI.stop {s : List UInt8} {n m : Nat} (h : PaI s n m) (hi : n < s.length) (hb : ¬ (s.getD n 0 = 32 ∨ s.getD n 0 = 9 ∨ s.getD n 0 = 10)) (hr : ¬ s.getD n 0 = 35) : passS s = n := by
  obtain ⟨m', rfl, hd⟩ := h.cases hi
  rw [← h.he, hd, passG, if_neg hb, if_neg hr]
  omega
theorem PaI.none {s : List UInt8} {n m : Nat} (h : PaI s n m) (hi : n < s.length) (hb : ¬ (s.getD n 0 = 32 ∨ s.getD n 0 = 9 ∨ s.getD n 0 = 10)) (hr : s.getD n 0 = 35) (hf : feedN (s.drop n) = none) : passS s = s.length := by
  obtain ⟨m', rfl, hd⟩ := h.cases hi
  rw [hd] at hf
  rw [← h.he, hd, passG, if_neg hb, if_pos hr, hf, ← hd]
  simp only [List.length_drop]
  omega
theorem PaI.some {s : List UInt8} {n m k : Nat} (h : PaI s n m) (hi : n < s.length) (hb : ¬ (s.getD n 0 = 32 ∨ s.getD n 0 = 9 ∨ s.getD n 0 = 10)) (hr : s.getD n 0 = 35) (hf : feedN (s.drop n) = some k) : PaI s (n + k) (m - 1) ∧ 1 ≤ k := by
  obtain ⟨m', rfl, hd⟩ := h.cases hi
  have hk := feed_le hf
  have h1 : 1 ≤ k := by
    rw [hd] at hf
    exact feed_pos (by rw [hr]; decide) hf
  have hm := h.hm
  rw [List.length_drop] at hm hk
  refine ⟨⟨by omega, by rw [List.length_drop]; omega, ?_⟩, h1⟩
  rw [hd] at hf
  rw [← h.he, hd, passG, if_neg hb, if_pos hr, hf, ← hd]
  simp only [List.drop_drop, Nat.add_sub_cancel]
  omega
theorem f145_ok {G} (s : List UInt8) (hl : s.length ≤ 1000000) : HP Tryz.prog G 145 [.str s] (fun r => r = .d (i64 (passS s))) := by
  refine funP_ok Tryz.func145 rfl (by decide +kernel) (by simp [Tryz.ntmps145]) (veil fun E => ?_)
  simp only [go_sem]
  refine loopT_e E (X := { x : Nat × Nat // PaI s x.1 x.2 }) (fun x => [(0, .d (.str s)), (3, .d (i64 x.1.1))]) (fun _ => []) [] (fun x => s.length - x.1.1) ⟨(0, _), PaI.init s⟩ id ?_ ?_
  · simp only [go_sem]
    all_goals rfl
  rintro ⟨⟨n, m⟩, hI⟩ E0
  refine hideQ E0 fun Q' hQ E' => ?_
  simp only at hI ⊢
  have hn := hI.hn
  simp only [go_sem]
  refine e_ifd E' (fun h1 => ?_) (fun h1 => ?_) <;> simp only [go_sem]
  rotate_left
  · rw [hQ]
    simp only [go_sem]
    rw [hI.fin (by omega)]
  have h1' : n < s.length := by omega
  refine ⟨⟨by omega, by omega⟩, ?_⟩
  refine e_call E' (f214_ok blankB (s.getD n 0)) rfl rfl (by simp) ?_
  rintro _ rfl
  simp only [go_sem]
  refine e_ifd E' (fun h2 => ?_) (fun h2 => ?_) <;> simp only [go_sem]
  · have hI2 := hI.blank h1' ((blank_ib _).1 h2)
    rw [w64_in ⟨by omega, by omega⟩, hQ]
    simp only [go_sem]
    refine ⟨⟨(n + 1, m - 1), hI2⟩, by show s.length - (n + 1) < _; omega, id, ?_⟩
    simp only [go_sem]
    rfl
  have h2n : ¬ (s.getD n 0 = 32 ∨ s.getD n 0 = 9 ∨ s.getD n 0 = 10) := fun h => h2 ((blank_ib _).2 h)
  refine ⟨⟨by omega, by omega⟩, ?_⟩
  refine e_ifd E' (fun h3 => ?_) (fun h3 => ?_) <;> simp only [go_sem]
  rotate_left
  · rw [hQ]
    simp only [go_sem]
    rw [hI.stop h1' h2n (u8_isnt 35 h3)]
  have h3y := u8_is 35 h3
  refine ⟨⟨by omega, by omega⟩, ?_⟩
  rw [List.take_of_length_le (l := s.drop n) (by rw [List.length_drop]; omega)]
  refine e_call E' (f214_ok (s.drop n) 10) rfl rfl (by simp) ?_
  rintro _ rfl
  rw [feed_ib]
  cases hf : feedN (s.drop n) with
  | none =>
    simp only [go_sem]
    rw [hQ]
    simp only [go_sem]
    rw [hI.none h1' h2n h3y hf]
  | some k =>
    have ⟨hI2, hk⟩ := hI.some h1' h2n h3y hf
    have hn2 := hI2.hn
    simp only [go_sem]
    refine e_ifd E' (fun h4 => ?_) (fun h4 => ?_) <;> simp only [go_sem]
    · omega
    rw [w64_in ⟨by omega, by omega⟩, hQ]
    simp only [go_sem]
    refine ⟨⟨(n + k, m - 1), hI2⟩, by show s.length - (n + k) < _; omega, id, ?_⟩
    simp only [go_sem]
    rfl
theorem f89_ok {G} (s : List UInt8) : HP Tryz.prog G 89 [.str s] (fun r => r = .d (.clo 144 [.ptr (.str s)])) := by
  have h : HCall Tryz.prog G 89 [.d (.str s)] [] [] (fun r hp' => r = .clo 144 [.at [1] 0] ∧ hp' = [([1], .box [.d (.str s)])]) := by
    refine funO_ok Tryz.func89 rfl (by decide +kernel) (by simp [Tryz.ntmps89]) (veil fun E => ?_)
    simp only [go_sem]
    refine ⟨_, _, [1], id, ⟨rfl, rfl⟩, ?_⟩
    simp only [go_sem]
  have h2 := HCall.fB (Q' := fun r hp' => r = .d (.clo 144 [.ptr (.str s)]) ∧ hp' = []) h [1] (.str s) (by
    rintro r hp' ⟨rfl, rfl⟩
    refine ⟨rfl, rfl, ?_, ?_⟩
    · simp only [go_sem]
    · simp only [go_sem])
  exact h2.mono fun r hp' ⟨h1, h3⟩ => ⟨h1, by rw [h1]; rfl, h3⟩
theorem passG_le : ∀ (m : Nat) (s : List UInt8), passG m s ≤ s.length
  | 0, _ => Nat.zero_le _
  | _ + 1, [] => Nat.le_refl _
  | m + 1, c :: r => by
    unfold passG
    split
    · have := passG_le m r
      simp only [List.length_cons]; omega
    split
    · split
      · exact Nat.le_refl _
      · rename_i k hk
        have := feed_le hk
        have h2 := passG_le m ((c :: r).drop k)
        rw [List.length_drop] at h2
        omega
    · exact Nat.zero_le _
theorem pass_le (s : List UInt8) : passS s ≤ s.length := passG_le _ _
structure TI (s : List UInt8) (j p : Nat) : Prop where
  hj : j ≤ (toksS s).length
  hp : p ≤ s.length
  he : ∃ m q, q ≤ s.length ∧ (s.drop q).length < m ∧ p = q + passS (s.drop q) ∧ (toksS s).drop j = toksG m (s.drop q) q
theorem TI.init (s : List UInt8) : TI s 0 (passS s) := ⟨Nat.zero_le _, pass_le s, s.length.succ, 0, Nat.zero_le _, by simp, by simp, by simp [toksS]⟩
theorem TI.next {s : List UInt8} {j p : Nat} (h : TI s j p) : (s.length ≤ p ∧ (toksS s).drop j = []) ∨
    (p < s.length ∧ (toksS s)[j]? = some (p, oneS (s.drop p)) ∧ (((oneS (s.drop p)).e ≠ 0 ∧ (toksS s).length = j + 1) ∨
      ((oneS (s.drop p)).e = 0 ∧ p + (oneS (s.drop p)).n ≤ s.length ∧ 1 ≤ (oneS (s.drop p)).n ∧ TI s (j + 1) (p + (oneS (s.drop p)).n + passS (s.drop (p + (oneS (s.drop p)).n)))))) := by
  obtain ⟨m, q, hq, hm, rfl, he⟩ := h.he
  have hpl := h.hp
  cases m with
  | zero => omega
  | succ m =>
    have hdd : (s.drop q).drop (passS (s.drop q)) = s.drop (q + passS (s.drop q)) := by rw [List.drop_drop]
    unfold toksG at he
    rw [hdd] at he
    obtain ⟨p, hp⟩ : ∃ p, p = q + passS (s.drop q) := ⟨_, rfl⟩
    rw [← hp] at he hpl ⊢
    by_cases h0 : s.drop p = []
    · rw [if_pos h0] at he
      refine .inl ⟨?_, he⟩
      exact List.drop_eq_nil_iff.1 h0
    rw [if_neg h0] at he
    have hlt : p < s.length := by
      rcases Nat.lt_or_ge p s.length with h1 | h1
      · exact h1
      · exact absurd (List.drop_eq_nil_of_le h1) h0
    refine .inr ⟨hlt, ?_⟩
    have hget : ∀ x r, (toksS s).drop j = x :: r → (toksS s)[j]? = some x := fun x r h => by
      have : ((toksS s).drop j)[0]? = some x := by rw [h]; rfl
      simpa using this
    by_cases h1 : (oneS (s.drop p)).e = 0
    · rw [if_neg (by simpa using h1)] at he
      have hn := one_n h0 h1
      rw [List.length_drop] at hn hm
      refine ⟨hget _ _ he, .inr ⟨h1, by omega, hn.1, ?_⟩⟩
      have hpq := pass_le (s.drop (p + (oneS (s.drop p)).n))
      rw [List.length_drop] at hpq
      have hj1 := (List.getElem?_eq_some_iff.1 (hget _ _ he)).1
      refine ⟨by omega, by omega, m, p + (oneS (s.drop p)).n, by omega, by rw [List.length_drop]; omega, rfl, ?_⟩
      have h2 : (toksS s).drop (j + 1) = ((toksS s).drop j).drop 1 := by rw [List.drop_drop]
      rw [h2, he, List.drop_succ_cons, List.drop_zero, List.drop_drop]
    · rw [if_pos h1] at he
      refine ⟨hget _ _ he, .inl ⟨h1, ?_⟩⟩
      have h2 := congrArg List.length he
      rw [List.length_drop] at h2
      simp at h2
      omega
def tokA (s : List UInt8) (n : Nat) : List D := [i64 ((toksS s).getD n (0, badF 0)).1, fndD ((toksS s).getD n (0, badF 0)).2]
set_option maxHeartbeats 1000000 in
theorem f144_it {G} (s : List UInt8) (hl : s.length ≤ 1000000) : ItC Tryz.prog G 144 [.ptr (.str s)] (toksS s).length (tokA s) := by
  refine funI_ok Tryz.func144 rfl (by decide +kernel) (by simp [Tryz.ntmps144]) rfl fun z hz => ?_
  refine Y_seq (Y_codeE fun E => ?_)
  simp only [go_sem]
  refine e_call E (f145_ok s hl) rfl rfl (by simp) ?_
  rintro _ rfl
  simp only [go_sem]
  refine Y_block (Y_loop (X := { x : Nat × Nat // TI s x.1 x.2 }) (fun x => mk [(0, .d (.yl z.l)), (1, .d (.ptr (.str s))), (3, .d (i64 x.1.2))] [] []) (fun x => II z x.1.1) (fun x => s.length - x.1.2) ⟨(0, passS s), .init s⟩ ⟨id, LeL.le ?_⟩ (fun _ _ h => h) ?_)
  · simp only [go_sem]
    all_goals rfl
  rintro ⟨⟨j, p⟩, hT⟩
  have hpl := hT.hp
  simp only at hT hpl ⊢
  generalize hΦ : lpY _ _ _ _ _ _ _ _ = Φ'
  refine Y_seq (Y_codeE fun E => ?_)
  simp only [go_sem]
  refine e_ifd E (fun h1 => ?_) (fun h1 => ?_) <;> simp only [go_sem]
  · obtain ⟨hlt, hget, hcase⟩ := hT.next.resolve_left (fun h => by omega)
    have hj : j < (toksS s).length := (List.getElem?_eq_some_iff.1 hget).1
    have hgd : (toksS s).getD j (0, badF 0) = (p, oneS (s.drop p)) := by rw [List.getD_eq_getElem?_getD, hget]; rfl
    generalize hF : oneS (s.drop p) = F at hget hcase hgd
    refine Y_seq (Y_block (Y_seq (Y_codeE fun E => ?_)))
    simp only [go_sem]
    refine ⟨⟨by omega, by omega⟩, ?_⟩
    rw [List.take_of_length_le (l := s.drop p) (by rw [List.length_drop]; omega)]
    refine e_call E (f146_ok (s.drop p) (by rw [List.length_drop]; omega) (by rw [List.length_drop]; omega)) rfl rfl (by simp) ?_
    rintro _ rfl
    rw [hF, fnd_eq F]
    simp only [go_sem]
    refine Y_seq (Y_seq (Y_region (Y_op rfl ?_)))
    simp only [go_sem]
    refine Y_op rfl ?_
    simp only [go_sem]
    refine Y_op rfl ?_
    simp only [go_sem]
    refine Y_yield hz hj (by simp) rfl (by simp only [go_sem]; rw [show tokA s j = [i64 p, fndD F] by unfold tokA; rw [hgd]]; rfl) ?_ ?_
    · refine Y_rest fun E => ?_
      simp only [go_sem]
      refine Y_codeE fun E => ?_
      simp only [go_sem]
      refine e_ifd E (fun h2 => ?_) (fun h2 => ?_) <;> simp only [go_sem]
      · rcases hcase with ⟨_, h3⟩ | ⟨h3, _⟩
        · rw [← h3]
          subst hΦ
          exact X_loop_ret (X_endI hz (.inr rfl))
        · exact absurd h3 h2
      · rcases hcase with ⟨h3, _⟩ | ⟨h3, h4, h5, h6⟩
        · exact absurd h3 h2
        refine Y_codeE fun E => ?_
        simp only [go_sem]
        rw [w64_in ⟨by omega, by omega⟩]
        refine Y_blk (Y_codeE fun E => ?_)
        simp only [go_sem]
        have hpo := h6.hp
        refine ⟨⟨by omega, by omega⟩, ?_⟩
        rw [show ((p : Int) + (F.n : Nat)).toNat = p + F.n by omega, List.take_of_length_le (l := s.drop (p + F.n)) (by rw [List.length_drop]; omega)]
        refine e_call E (f145_ok (s.drop (p + F.n)) (by rw [List.length_drop]; omega)) rfl rfl (by simp) ?_
        rintro _ rfl
        simp only [go_sem]
        rw [w64_in ⟨by omega, by omega⟩]
        subst hΦ
        refine Y_loop_next (show { x : Nat × Nat // TI s x.1 x.2 } from ⟨(j + 1, p + F.n + passS (s.drop (p + F.n))), h6⟩) ?_ id (LeL.le ?_) (fun _ _ h => h)
        · show s.length - (p + F.n + passS (s.drop (p + F.n))) < s.length - p
          omega
        · simp only [go_sem]
          rfl
    · refine Y_rest fun E => ?_
      simp only [go_sem]
      refine Y_codeE fun E => ?_
      simp only [go_sem]
      subst hΦ
      exact X_loop_ret (X_endX hz (.inr rfl))
  · subst hΦ
    refine X_loop_exit ?_
    simp only [go_sem]
    refine Y_nil ?_
    have hj := hT.hj
    rcases hT.next with ⟨_, h2⟩ | ⟨h2, _⟩
    · have h3 := List.drop_eq_nil_iff.1 h2
      have : j = (toksS s).length := by omega
      subst this
      exact X_endI hz (.inl rfl)
    · omega
theorem toks_ok : ∀ (m : Nat) (s : List UInt8) (at' i : Nat), i + 1 < (toksG m s at').length → ((toksG m s at').getD i (0, badF 0)).2.e = 0
  | 0, _, _, _, h => by simp [toksG] at h
  | m + 1, s, at', i, h => by
    unfold toksG at h ⊢
    split at h
    · simp at h
    rename_i h0
    rw [if_neg h0]
    split at h
    · simp at h
    rename_i h1
    rw [if_neg h1]
    cases i with
    | zero => simpa using h1
    | succ i =>
      simp only [List.length_cons] at h
      rw [List.getD_cons_succ]
      exact toks_ok m _ _ i (by omega)
theorem badT_none : ∀ {l : List (Nat × Fnd)}, badT l = none → ∀ q ∈ l, q.2.e = 0
  | [], _, q, h => by cases h
  | a :: r, hb, q, h => by
    unfold badT at hb
    split at hb
    · cases hb
    rename_i h1
    rcases List.mem_cons.1 h with rfl | h
    · simpa using h1
    · exact badT_none hb q h
theorem badT_last : ∀ {l : List (Nat × Fnd)} {i : Nat} {e : Int}, (∀ k, k + 1 < l.length → (l.getD k (0, badF 0)).2.e = 0) → badT l = some (i, e) → 0 < l.length ∧ (l.getD (l.length - 1) (0, badF 0)).1 = i ∧ (l.getD (l.length - 1) (0, badF 0)).2.e = e ∧ e ≠ 0
  | [], _, _, _, h => by cases h
  | [a], i, e, _, h => by
    unfold badT at h
    split at h
    · rename_i h1; cases h; exact ⟨by simp, rfl, rfl, h1⟩
    · cases h
  | a :: b :: r, i, e, hk, h => by
    have ha : a.2.e = 0 := hk 0 (by simp)
    unfold badT at h
    rw [if_neg (by simpa using ha)] at h
    obtain ⟨_, h2, h3, h4⟩ := badT_last (l := b :: r) (fun k hk' => by
      have := hk (k + 1) (by simp only [List.length_cons] at hk' ⊢; omega)
      simpa using this) h
    refine ⟨by simp, ?_, ?_, h4⟩
    · simpa using h2
    · simpa using h3
def badS : St := mk [] [([0], .map [])] []
theorem ARY_bad {P : Program} {cf : Cf} {Φ : Exit → Act → World → Prop} {I : Base → List Deferred → Prop} {k : List It} : ARY P cf Φ I k badS := by
  intro B hB ds β a w hds hI hs
  obtain ⟨⟨_, _, _, h⟩, _⟩ := hs.objs [0] _ rfl
  cases h
def lexSt (s : List UInt8) (n : Nat) : St := mk [(0, .d (.str s)), (2, .at [2] 0), (3, .at [3] 0), (4, .at [4] 0), (5, .at [5] 0)] [([2], .box [.d .nils]), ([3], .box [.d (i64 0)]), ([4], .box [.d (i64 0)]), ([5], .box [.vw [99] 0 n]), ([99], .arr (some 4) (((toksS s).take n).map fun q => tokD (tokOf q)))] [2, 3, 4, 5, 99]
theorem lex_step (s : List UInt8) {n : Nat} (hn : n < (toksS s).length) {q : Nat × Fnd} (hq : q = (toksS s).getD n (0, badF 0)) :
    List.take n (List.map (fun q => tokD (tokOf q)) (List.take n (toksS s))) ++ [.agg [i64 q.2.t.k, .str q.2.t.s, i64 q.2.t.n, .int .i64 (q.1 : Nat)]] = List.map (fun q => tokD (tokOf q)) (List.take (n + 1) (toksS s)) := by
  have hq2 : q = (toksS s)[n] := by rw [hq]; simp [hn]
  rw [List.take_of_length_le (by simp; omega), List.take_succ_eq_append_getElem hn, List.map_append, ← hq2]
  rfl
set_option maxHeartbeats 1000000 in
theorem f51_ok {G} (s : List UInt8) (hl : s.length ≤ 1000000) (hb : badT (toksS s) = none) : HP Tryz.prog G 51 [.str s] (fun r => r = .tup [.d (.sl (some 4) ((lexS s).1.map tokD)), .d (i64 (lexS s).2.1), .d (i64 (lexS s).2.2)]) := by
  have hok := badT_none hb
  have hfew : (toksS s).length ≤ s.length := toks_few s.length.succ s 0
  have hlex : lexS s = ((toksS s).map tokOf, s.length, 0) := by unfold lexS; rw [hb]
  refine funR_ok Tryz.func51 rfl (by decide +kernel) (by simp [Tryz.ntmps51]) fun B0 hB0 => ?_
  refine Y_seq (Y_codeE fun E => ?_)
  simp only [go_sem]
  refine Y_seq (Y_codeE fun E => ?_)
  simp only [go_sem]
  refine Y_seq (Y_seq (Y_codeE fun E => ?_))
  simp only [go_sem]
  refine e_call E (f89_ok s) rfl rfl (by simp) ?_
  rintro _ rfl
  simp only [go_sem]
  refine Y_thawB [5] 0 99 (some 4) [.d .nils] rfl rfl (by rw [mk_used]; decide) ?_
  simp only [go_sem]
  refine Y_block (Y_range rfl (f144_it s hl) rfl (X := Unit) (fun n _ => lexSt s n) (by simp) (fun n hn => rfl) ⟨(), id, LeL.le ?_⟩ ?_ ?_)
  · simp only [go_sem]
    all_goals rfl
  · rintro n ⟨⟩ hn lb
    unfold lexSt tokA
    obtain ⟨q, hq⟩ : ∃ q, q = (toksS s).getD n (0, badF 0) := ⟨_, rfl⟩
    have hqm : q ∈ toksS s := by rw [hq]; simp [hn]
    have hqe := hok q hqm
    rw [← hq, fnd_eq]
    refine veil fun E => ?_
    simp only [go_sem]
    refine asgE fun E => ?_
    simp only [go_sem]
    refine e_ifd E (fun h1 => absurd hqe h1) (fun h1 => ?_) <;> simp only [go_sem]
    rw [lex_step s hn hq]
    refine ⟨by omega, ?_⟩
    refine rq_mk ?_ () (tau [([99], [25])]) rfl ?_
    · simp only [go_sem]
    · simp only [go_sem]
  · rintro ⟨⟩
    refine Y_blk ?_
    unfold lexSt
    rw [List.take_length]
    refine Y_codeE fun E => ?_
    simp only [go_sem]
    refine X_retZ (.inl rfl) hB0 ?_
    simp only [go_sem]
    refine ⟨[([99], some 4, (toksS s).map fun q => tokD (tokOf q))], ?_⟩
    simp only [go_sem]
    rw [hlex, List.map_map]
    rfl
set_option maxHeartbeats 1000000 in
theorem f51_bad {G} (s : List UInt8) (hl : s.length ≤ 1000000) {i : Nat} {e : Int} (hb : badT (toksS s) = some (i, e)) : HP Tryz.prog G 51 [.str s] (fun r => r = .tup [.d .nils, .d (i64 i), .d (i64 e)]) := by
  obtain ⟨h0, hi, he, hne⟩ := badT_last (toks_ok _ _ _) hb
  have hok : ∀ n, n + 1 < (toksS s).length → ((toksS s).getD n (0, badF 0)).2.e = 0 := toks_ok _ _ _
  have hfew : (toksS s).length ≤ s.length := toks_few s.length.succ s 0
  change 0 < (toksS s).length at h0
  change ((toksS s).getD ((toksS s).length - 1) (0, badF 0)).1 = i at hi
  change ((toksS s).getD ((toksS s).length - 1) (0, badF 0)).2.e = e at he
  refine funR_ok Tryz.func51 rfl (by decide +kernel) (by simp [Tryz.ntmps51]) fun B0 hB0 => ?_
  refine Y_seq (Y_codeE fun E => ?_)
  simp only [go_sem]
  refine Y_seq (Y_codeE fun E => ?_)
  simp only [go_sem]
  refine Y_seq (Y_seq (Y_codeE fun E => ?_))
  simp only [go_sem]
  refine e_call E (f89_ok s) rfl rfl (by simp) ?_
  rintro _ rfl
  simp only [go_sem]
  refine Y_thawB [5] 0 99 (some 4) [.d .nils] rfl rfl (by rw [mk_used]; decide) ?_
  simp only [go_sem]
  refine Y_block (Y_range rfl (f144_it s hl) rfl (X := Unit) (fun n _ => if n < (toksS s).length then lexSt s n else badS) (by simp) (fun n hn => rfl) ⟨(), id, ?_⟩ ?_ ?_)
  · rw [if_pos h0]
    refine LeL.le ?_
    simp only [go_sem]
    all_goals rfl
  · rintro n ⟨⟩ hn lb
    simp only [if_pos hn]
    have hlast : n + 1 < (toksS s).length ∨ n = (toksS s).length - 1 := by omega
    obtain ⟨q, hq⟩ : ∃ q, q = (toksS s).getD n (0, badF 0) := ⟨_, rfl⟩
    have hcase : (q.2.e = 0 ∧ n + 1 < (toksS s).length) ∨ (q.1 = i ∧ q.2.e = e) := by
      rcases hlast with h | h
      · exact .inl ⟨by rw [hq]; exact hok n h, h⟩
      · refine .inr ⟨?_, ?_⟩
        · rw [hq, h]; exact hi
        · rw [hq, h]; exact he
    unfold tokA
    rw [← hq, fnd_eq]
    unfold lexSt
    refine veil fun E => ?_
    simp only [go_sem]
    refine asgE fun E => ?_
    simp only [go_sem]
    refine e_ifd E (fun h1 => ?_) (fun h1 => ?_) <;> simp only [go_sem]
    · obtain ⟨hq1, hq2⟩ := hcase.resolve_left (fun h => h1 h.1)
      refine region_xv mixed E fun X => ?_
      simp only [go_sem]
      refine ⟨by decide +kernel, ?_⟩
      refine rq_ret ?_ (X_retZ (.inl rfl) hB0 ?_)
      · simp only [go_sem]
        exact Nat.le_refl _
      · simp only [go_sem]
        refine ⟨[], ?_⟩
        simp only [go_sem]
        rw [hq1, hq2]
    · rcases hcase with ⟨_, h2⟩ | ⟨_, h2⟩
      · rw [lex_step s hn hq]
        refine ⟨by omega, ?_⟩
        simp only [if_pos h2]
        refine rq_mk ?_ () (tau [([99], [25])]) rfl ?_
        · simp only [go_sem]
        · simp only [go_sem]
      · exact absurd h2 (fun h => by omega)
  · rintro ⟨⟩
    rw [if_neg (Nat.lt_irrefl _)]
    exact ARY_bad
theorem SS.parted (s : PS) (t : Tok) (l : List EF) (h : ∀ N, PSo N s → 0 ≤ t.pos ∧ t.pos ≤ N) : SS s (s.parted t l) := by
  unfold PS.parted
  split
  · exact SS.refl s
  split
  · exact SS.fail s _ _ h
  split
  · exact SS.fail s _ _ h
  · exact SS.refl s
theorem SS.withp {s r : PS} (h : SS s r) (e p : Int) (hp : ∀ N, PSo N s → 0 ≤ p ∧ p ≤ N) : SS s (r.fail e p) := by
  unfold PS.fail
  split
  · exact ⟨h.suf, h.fin, h.nest, hp⟩
  · exact h
theorem SS.partp {s r : PS} (h : SS s r) (t : Tok) (l : List EF) (hp : ∀ N, PSo N s → 0 ≤ t.pos ∧ t.pos ≤ N) : SS s (r.parted t l) := by
  unfold PS.parted
  split
  · exact h
  split
  · exact SS.withp h _ _ hp
  split
  · exact SS.withp h _ _ hp
  · exact h
theorem SS.field (s : PS) (l : List EF) : SS s (fieldS s l).2 :=
  (SS.partp (SS.of s 2) s.peek l fun _ h => peek_po h).trans (SS.must _ _ _)
theorem SS.branch (s : PS) (l : List EF) : SS s (branchS s l).2 :=
  ((SS.partp (SS.of s 3) s.peek l fun _ h => peek_po h).trans (SS.of _ _)).trans (SS.must _ _ _)
structure PGood (s : PS) (l : List EF) (ks : List (List EN)) (R : List EF × List (List EN) × PS) : Prop where
  ss : SS s R.2.2
  eq : R.1.length = R.2.1.length
  tr : ∀ k ∈ R.2.1, Tr k
  sz : sumL R.2.1 + 4 * R.2.2.l.length + 3 * R.1.length ≤ sumL ks + 4 * s.l.length + 3 * l.length + 4
  ln : R.1.length + R.2.2.l.length ≤ l.length + s.l.length + 1
  wd : ∀ b, (∀ k ∈ ks, WideL b k) → s.l.length + 1 ≤ b + R.2.2.l.length → ∀ k ∈ R.2.1, WideL b k
theorem sumL_snoc (ks : List (List EN)) (k : List EN) : sumL (ks ++ [k]) = sumL ks + k.length := by simp [sumL]
theorem parts_one (ex : PS → PR) (b : List UInt8) (part : PS → List EF → EF × PS) : ∀ (m : Nat) (s : PS) (l : List EF) (ks : List (List EN)), 1 ≤ (partsS ex b part (m + 1) s l ks).1.length
  | 0, s, l, ks => by
    unfold partsS; simp only
    split
    · simp [partsS]
    · simp
  | m + 1, s, l, ks => by
    unfold partsS; simp only
    split
    · exact parts_one ex b part m _ _ _
    · simp
section
variable {ex : PS → PR} (hex : ∀ s, GP 1 s (ex s))
include hex
theorem parts_good (between : List UInt8) (part : PS → List EF → EF × PS) (hp : ∀ s l, SS s (part s l).2) : ∀ (m : Nat) (s : PS) (l : List EF) (ks : List (List EN)), l.length = ks.length → (∀ k ∈ ks, Tr k) →
    PGood s l ks (partsS ex between part m s l ks)
  | 0, s, l, ks, hl, ht => ⟨SS.refl s, hl, ht, by show sumL ks + 4 * s.l.length + 3 * l.length ≤ _; omega, by show l.length + s.l.length ≤ _; omega, fun b h _ => h⟩
  | m + 1, s, l, ks, hl, ht => by
    have hf := hp s l
    have he := hex (part s l).2
    have h1 := he.sz
    have h2 := hf.len
    have h3 := he.ss.len
    have hks : ∀ k ∈ ks ++ [(ex (part s l).2).1], Tr k := fun k hk => by
      rcases List.mem_append.1 hk with hk | hk
      · exact ht k hk
      · rw [List.mem_singleton.1 hk]; exact he.tr
    unfold partsS
    simp only
    split
    · rename_i hs
      have h4 := sees_len hs
      have ih := parts_good between part hp m (ex (part s l).2).2.next (l ++ [(part s l).1]) (ks ++ [(ex (part s l).2).1]) (by simp [hl]) hks
      have h5 := ih.ss.len
      have h6 := ih.sz
      have h7 := ih.ln
      rw [sumL_snoc] at h6
      simp only [List.length_append, List.length_singleton] at h6 h7
      refine ⟨((hf.trans he.ss).trans (SS.next _)).trans ih.ss, ih.eq, ih.tr, by omega, by omega, fun b hb hle => ih.wd b (fun k hk => ?_) (by omega)⟩
      rcases List.mem_append.1 hk with hk | hk
      · exact hb k hk
      · rw [List.mem_singleton.1 hk]; exact he.wd.mono (by omega)
    · refine ⟨hf.trans he.ss, by simp [hl], hks, ?_, ?_, fun b hb hle k hk => ?_⟩
      · rw [sumL_snoc]; simp only [List.length_append, List.length_singleton]; omega
      · simp only [List.length_append, List.length_singleton]; omega
      · simp only at hle
        rcases List.mem_append.1 hk with hk | hk
        · exact hb k hk
        · rw [List.mem_singleton.1 hk]; exact he.wd.mono (by omega)
theorem record_good (s : PS) (pos : Int) : GP 2 s (recordS ex s pos) := by
  unfold recordS
  split
  · exact GP.leaf rfl rfl (SS.next s) (by rename_i h; have := sees_len h; omega)
  · have h := parts_good hex [44] fieldS SS.field s.l.length.succ s [] [] rfl (fun _ h => by cases h)
    generalize partsS ex [44] fieldS s.l.length.succ s [] [] = R at h
    have h1 := h.sz
    have h2 := h.ln
    have h3 := h.ss.len
    have h4 := (SS.must R.2.2 7 [125]).len
    simp only [sumL, List.map_nil, List.sum_nil, List.length_nil] at h1 h2
    refine ⟨h.ss.trans (SS.must _ _ _), .join _ _ (by show 0 + R.1.length = _; rw [h.eq]; omega) h.tr, ?_, join_wide (by show R.1.length ≤ _; simp only; omega) (h.wd _ (fun _ h => by cases h) (by simp only; omega))⟩
    rw [join_len]
    simp only [sumL]
    have h5 : R.1 = [] ∨ 1 ≤ R.1.length := by cases R.1 <;> simp
    rcases h5 with h5 | h5
    · have : R.2.1 = [] := List.length_eq_zero_iff.1 (by rw [← h.eq, h5]; rfl)
      rw [this]; simp only [List.map_nil, List.sum_nil]; omega
    · omega
theorem cases_good (s : PS) (pos : Int) : GP 3 s (casesS ex s pos) := by
  unfold casesS
  have he := hex s
  have hm := SS.must (ex s).2 1 bOf
  simp only
  generalize (ex s).2.must 1 bOf = s1 at hm
  have h := parts_good hex [124] branchS SS.branch s1.l.length.succ s1 [] [] rfl (fun _ h => by cases h)
  generalize hR : partsS ex [124] branchS s1.l.length.succ s1 [] [] = R at h
  have h1 := h.sz
  have h2 := h.ln
  have h3 := h.ss.len
  have h4 := (SS.must R.2.2 1 bEnd).len
  have h5 := he.sz
  have h6 := he.ss.len
  have h7 := hm.len
  have h8 : 1 ≤ R.1.length := by
    rw [← hR]
    exact parts_one _ _ _ _ _ _ _
  simp only [sumL, List.map_nil, List.sum_nil, List.length_nil] at h1 h2
  refine ⟨((he.ss.trans hm).trans h.ss).trans (SS.must _ _ _), .join _ _ (by show 1 + R.1.length = _; rw [h.eq, List.length_cons]; omega) (fun l hl => ?_), ?_, join_wide (by show R.1.length ≤ _; simp only; omega) fun l hl => ?_⟩
  · rcases List.mem_cons.1 hl with rfl | hl
    · exact he.tr
    · exact h.tr l hl
  · rw [join_len]
    simp only [sumL, List.map_cons, List.sum_cons]
    omega
  · rcases List.mem_cons.1 hl with rfl | hl
    · exact he.wd.mono (by simp only; omega)
    · exact h.wd _ (fun _ h => by cases h) (by simp only; omega) l hl
def GQ (s : PS) (r : PR) : Prop := GP 1 s r ∧ (r.2.l.length < s.l.length → r.1.length + 4 * r.2.l.length + 1 ≤ 4 * s.l.length)
theorem atom_good (s : PS) : GQ s (atomS ex s) := by
  have lf : ∀ n : EN, wideE n = 0 → n.l = [] → s.next.l.length + 1 = s.l.length → GQ s (leafE n, s.next) := fun n h1 h2 h3 =>
    ⟨GP.leaf h1 h2 (SS.next s) (by omega), fun _ => by show (joinE n []).length + _ + 1 ≤ _; rw [join_len]; simp only [sumL, List.map_nil, List.sum_nil]; omega⟩
  have no : GQ s (noE, s.wrong) := ⟨GP.leaf rfl rfl (SS.wrong s) (by have := (SS.wrong s).len; omega), fun h => absurd h (by show ¬ s.wrong.l.length < _; unfold PS.wrong PS.fail; split <;> simp)⟩
  unfold atomS
  simp only
  split
  · exact no
  split
  · rename_i h; exact lf _ rfl rfl (kind_len h (by decide))
  split
  · rename_i h; exact lf _ rfl rfl (kind_len h (by decide))
  split
  · rename_i h; exact lf _ rfl rfl (kind_len h (by decide))
  split
  · rename_i h; exact lf _ rfl rfl (sees_len h)
  split
  · rename_i h; exact lf _ rfl rfl (sees_len h)
  split
  · rename_i h
    have h1 := sees_len h
    have he := hex s.next
    have h2 := he.sz
    have h3 := (SS.must (ex s.next).2 7 [41]).len
    exact ⟨(GP.pre (e := 1) (r := ((ex s.next).1, (ex s.next).2)) he (SS.next s) (by omega)).post (SS.must _ _ _), fun _ => by simp only; omega⟩
  split
  · rename_i h
    have h1 := sees_len h
    have he := record_good hex s.next s.peek.pos
    have h2 := he.sz
    exact ⟨he.pre (SS.next s) (by omega), fun _ => by omega⟩
  split
  · rename_i h
    have h1 := sees_len h
    have he := cases_good hex s.next s.peek.pos
    have h2 := he.sz
    exact ⟨he.pre (SS.next s) (by omega), fun _ => by omega⟩
  · exact no
omit hex in
theorem gets_good (s0 : PS) : ∀ (m : Nat) (a : List EN) (s : PS), GQ s0 (a, s) → GQ s0 (getsS m a s)
  | 0, _, _, h => h
  | m + 1, a, s, h => by
    unfold getsS
    split
    · rename_i hs
      refine gets_good s0 m _ _ ?_
      have h1 := sees_len hs
      have h2 := (SS.of s.next 2).len
      have h3 := h.1.sz
      have h4 := h.1.ss.len
      simp only at h3 h4
      have hj : (joinE { nd0 12 s.peek.pos with name := (s.next.of 2).1 } [a]).length = a.length + 1 := by rw [join_len]; simp [sumL]
      refine ⟨⟨(h.1.ss.trans (SS.next s)).trans (SS.of _ _), .join _ _ rfl (fun l hl => by rw [List.mem_singleton.1 hl]; exact h.1.tr), by rw [hj]; simp only; omega, join_wide (Nat.zero_le _) fun l hl => by rw [List.mem_singleton.1 hl]; exact h.1.wd.mono (by simp only; omega)⟩, fun _ => by rw [hj]; simp only; omega⟩
    · exact h
theorem post_good (s : PS) : GQ s (postS ex s) := gets_good s _ _ _ (atom_good hex s)
omit hex in
theorem gets_len : ∀ (m : Nat) (a : List EN) (s : PS), (getsS m a s).2.l.length ≤ s.l.length
  | 0, _, _ => Nat.le_refl _
  | m + 1, a, s => by
    unfold getsS
    split
    · have := gets_len m (joinE { nd0 12 s.peek.pos with name := (s.next.of 2).1 } [a]) (s.next.of 2).2
      have := (SS.of s.next 2).len
      have := (SS.next s).len
      omega
    · exact Nat.le_refl _
theorem post_less {s : PS} (he : s.err = 0) (hb : s.begins = true) : (postS ex s).2.l.length < s.l.length := by
  have h1 := gets_len (atomS ex s).2.l.length.succ (atomS ex s).1 (atomS ex s).2
  have key : (atomS ex s).2.l.length < s.l.length := by
    unfold PS.begins at hb
    simp only [Bool.or_eq_true, Bool.and_eq_true, decide_eq_true_eq] at hb
    unfold atomS
    simp only [he, ne_eq, not_true_eq_false, if_false]
    have hk : ∀ k : Int, s.peek.k = k → k ≠ 0 → s.next.l.length < s.l.length := fun k h h0 => by have := kind_len h h0; omega
    have hne : ∀ k : Int, s.peek.k = k → k ≠ 0 → s.l.isEmpty = false := fun k h h0 => by
      have := kind_len h h0
      cases hl : s.l with
      | nil => rw [hl] at this; simp at this
      | cons _ _ => rfl
    split
    · rename_i h; exact hk 4 h (by decide)
    split
    · rename_i h; exact hk 5 h (by decide)
    split
    · rename_i h; exact hk 2 h (by decide)
    rename_i g4 g5 g2
    split
    · rename_i h; have := sees_len h; simp only; omega
    rename_i g1
    split
    · rename_i h; have := sees_len h; simp only; omega
    rename_i g3
    split
    · rename_i h
      have := sees_len h
      have := (hex s.next).ss.len
      have := (SS.must (ex s.next).2 7 [41]).len
      simp only; omega
    rename_i g6
    split
    · rename_i h
      have := sees_len h
      have := (record_good hex s.next s.peek.pos).ss.len
      omega
    rename_i g7
    split
    · rename_i h
      have := sees_len h
      have := (cases_good hex s.next s.peek.pos).ss.len
      omega
    rename_i g8
    exfalso
    have see : ∀ k t, k ≠ 0 → s.peek.k = k → s.peek.s = t → s.sees k t = true := fun k t h0 h h' => by
      simp [PS.sees, PS.is, he, h, h', hne k h h0]
    rcases hb with (((h | h) | h) | ⟨h, h'⟩) | ⟨h, h'⟩
    · exact g4 h
    · exact g5 h
    · exact g2 h
    · rcases h' with (h' | h') | h'
      · exact g1 (see 1 _ (by decide) h h')
      · exact g3 (see 1 _ (by decide) h h')
      · exact g8 (see 1 _ (by decide) h h')
    · rcases h' with h' | h'
      · exact g6 (see 7 _ (by decide) h h')
      · exact g7 (see 7 _ (by decide) h h')
  exact Nat.lt_of_le_of_lt h1 key
theorem apps_good (s0 : PS) : ∀ (m : Nat) (a : List EN) (s : PS), GP 1 s0 (a, s) → GP 1 s0 (appsS ex m a s)
  | 0, _, _, h => h
  | m + 1, a, s, h => by
    unfold appsS
    split
    · rename_i hs
      simp only [Bool.and_eq_true, decide_eq_true_eq] at hs
      have hp := post_good hex s
      have hl := post_less hex hs.1 hs.2
      have h2 := hp.2 hl
      have h3 := h.sz
      have h4 := h.ss.len
      simp only at h3 h4
      refine apps_good s0 m _ _ ⟨h.ss.trans hp.1.ss, .join _ _ rfl (fun l hl => ?_), ?_, join_wide (Nat.zero_le _) fun l hl => ?_⟩
      · rcases List.mem_cons.1 hl with rfl | hl
        · exact h.tr
        · rw [List.mem_singleton.1 hl]; exact hp.1.tr
      · rw [join_len]
        simp only [sumL, List.map_cons, List.map_nil, List.sum_cons, List.sum_nil]
        omega
      · rcases List.mem_cons.1 hl with rfl | hl
        · exact h.wd.mono (by simp only; omega)
        · rw [List.mem_singleton.1 hl]; exact hp.1.wd.mono (by simp only; omega)
    · exact h
theorem app_good (s : PS) : GP 1 s (appS ex s) := by
  unfold appS
  simp only
  split
  · rename_i h
    have h1 := has_len h (by decide)
    exact GP.join1 (post_good hex s.next).1 (SS.next s) rfl rfl (by omega)
  · exact apps_good hex s _ _ _ (post_good hex s).1
omit hex in
theorem op_len {s : PS} : ∀ {ops : List (List UInt8 × Int)} {n : Int}, opS s ops = some n → s.next.l.length + 1 = s.l.length
  | [], _, h => by cases h
  | q :: r, n, h => by
    unfold opS at h
    split at h
    · rename_i hs; exact sees_len hs
    · exact op_len h
omit hex in
theorem bin_good (ops : List (List UInt8 × Int)) (sub : PS → PR) (hsub : ∀ s, GP 1 s (sub s)) (s0 : PS) : ∀ (m : Nat) (a : List EN) (s : PS), GP 1 s0 (a, s) → GP 1 s0 (binS ops sub m a s)
  | 0, _, _, h => h
  | m + 1, a, s, h => by
    unfold binS
    split
    · rename_i n ho
      have h1 := op_len ho
      exact bin_good ops sub hsub s0 m _ _ (GP.join2 (s1 := s0) (a := (a, s)) h (hsub s.next) (SS.refl s0) (SS.next s) rfl rfl (by simp only; omega))
    · exact h
theorem prod_good (s : PS) : GP 1 s (prodS ex s) := bin_good _ _ (app_good hex) s _ _ _ (app_good hex s)
theorem sum_good (s : PS) : GP 1 s (sumS ex s) := bin_good _ _ (prod_good hex) s _ _ _ (prod_good hex s)
theorem cmp_good (s : PS) : GP 1 s (cmpS ex s) := by
  unfold cmpS
  simp only
  split
  · rename_i n ho
    have h1 := op_len ho
    exact GP.join2 (sum_good hex s) (sum_good hex _) (SS.refl s) (SS.next _) rfl rfl (by omega)
  · exact sum_good hex s
omit hex in
theorem fail_l (s : PS) (e p : Int) : (s.fail e p).l = s.l := by unfold PS.fail; split <;> rfl
theorem let_good (s : PS) (pos : Int) : GP 3 s (letS ex s pos) := by
  unfold letS
  simp only
  obtain ⟨k, hk⟩ : ∃ k : Int, k = if s.sees 1 bRec = true then 8 else 7 := ⟨_, rfl⟩
  rw [← hk]
  have h0 := (SS.may s 1 bRec).trans ((SS.of (s.may 1 bRec) 2).trans (SS.must ((s.may 1 bRec).of 2).2 7 [61]))
  generalize (((s.may 1 bRec).of 2).2.must 7 [61]) = s2 at h0
  have ha := hex s2
  obtain ⟨s3, hq⟩ : ∃ s3, s3 = if k = 8 ∧ (rootE (ex s2).1).k ≠ 5 then (ex s2).2.fail 5 s2.peek.pos else (ex s2).2 := ⟨_, rfl⟩
  rw [← hq]
  have hb := hex (s3.must 1 bIn)
  have hss : SS s2 s3 := by
    by_cases c : k = 8 ∧ (rootE (ex s2).1).k ≠ 5
    · rw [if_pos c] at hq; rw [hq]; exact SS.withp ha.ss _ _ fun _ h => peek_po h
    · rw [if_neg c] at hq; rw [hq]; exact ha.ss
  have hl : s3.l = (ex s2).2.l := by
    by_cases c : k = 8 ∧ (rootE (ex s2).1).k ≠ 5
    · rw [if_pos c] at hq; rw [hq]; exact fail_l _ _ _
    · rw [if_neg c] at hq; rw [hq]
  have ha' : GP 1 s2 ((ex s2).1, s3) := ⟨hss, ha.tr, by simp only [hl]; exact ha.sz, by simp only [hl]; exact ha.wd⟩
  have h3 := (SS.must s3 1 bIn).len
  have h4 := h0.len
  refine GP.join2 (a := ((ex s2).1, s3)) ha' hb h0 (SS.must _ _ _) ?_ rfl (by simp only; omega)
  rw [hk]
  split <;> rfl
theorem if_good (s : PS) (pos : Int) : GP 4 s (ifS ex s pos) := by
  unfold ifS
  simp only
  exact GP.join3 (hex s) (hex _) (hex _) (SS.refl s) (SS.must _ _ _) (SS.must _ _ _) rfl rfl (by omega)
theorem body_good (s : PS) : GP 1 s (exprB ex s) := by
  unfold exprB
  simp only
  split
  · rename_i h
    have h1 := sees_len h
    have h2 := (SS.of s.next 2).len
    have h3 := (SS.must (s.next.of 2).2 7 bTo).len
    exact GP.join1 (hex _) ((SS.next s).trans ((SS.of _ _).trans (SS.must _ _ _))) rfl rfl (by omega)
  split
  · rename_i h
    have h1 := sees_len h
    exact (let_good hex s.next _).pre (SS.next s) (by omega)
  split
  · rename_i h
    have h1 := sees_len h
    exact (if_good hex s.next _).pre (SS.next s) (by omega)
  · exact cmp_good hex s
end
theorem expr_good : ∀ (m : Nat) (s : PS), GP 1 s (exprS m s)
  | 0, s => GP.leaf rfl rfl (SS.failp s 6) (by have := (SS.failp s 6).len; omega)
  | m + 1, s => by
    unfold exprS
    split
    · exact GP.leaf rfl rfl (SS.refl s) (by omega)
    · have h := body_good (expr_good m) { s with nest := s.nest + 1 }
      refine ⟨⟨h.ss.suf, h.ss.fin, rfl, fun N hN => h.ss.pos N hN⟩, h.tr, h.sz, h.wd⟩
def Fm (B : Nat) (f : EF) : Prop := f.nm.length ≤ B ∧ f.var.length ≤ B
def Nm (B : Nat) (n : EN) : Prop := n.name.length ≤ B ∧ n.s.length ≤ B ∧ ∀ f ∈ n.l, Fm B f
def Sm (B : Nat) (ns : List EN) : Prop := ∀ n ∈ ns, Nm B n
def Tm (B : Nat) (s : PS) : Prop := ∀ t ∈ s.l, t.s.length ≤ B
section
variable {B : Nat}
theorem partE_nm (ks : List Int) (o : Nat) : ∀ (l : List EF) (i : Nat), (∀ f ∈ l, Fm B f) → ∀ f ∈ partE ks o l i, Fm B f
  | [], _, _, f, hf => by simp [partE] at hf
  | g :: r, i, h, f, hf => by
    rw [partE] at hf
    rcases List.mem_cons.1 hf with rfl | hf
    · have := h g List.mem_cons_self
      split <;> exact this
    · exact partE_nm ks o r (i + 1) (fun x hx => h x (List.mem_cons_of_mem _ hx)) f hf
theorem Nm.with {n : EN} (h : Nm B n) (ks : List Int) : Nm B (withE n ks) := by
  refine ⟨h.1, h.2.1, fun f hf => ?_⟩
  have hf : f ∈ (if partsZ n.k then partE ks (kidN n.k) n.l 0 else []) := hf
  split at hf
  · exact partE_nm _ _ _ _ h.2.2 f hf
  · cases hf
theorem cat_nm : ∀ (ls : List (List EN)) (acc : List EN) (rs : List Int), (∀ l ∈ ls, Sm B l) → Sm B acc → Sm B (catE ls acc rs).1
  | [], _, _, _, h => h
  | l :: r, acc, rs, hl, h => by
    refine cat_nm r _ _ (fun x hx => hl x (List.mem_cons_of_mem _ hx)) fun n hn => ?_
    rcases List.mem_append.1 hn with hn | hn
    · exact h n hn
    · obtain ⟨m, hm, rfl⟩ := List.mem_map.1 hn
      exact (hl l List.mem_cons_self m hm).with _
theorem join_nm {n : EN} {ls : List (List EN)} (hn : Nm B n) (hl : ∀ l ∈ ls, Sm B l) : Sm B (joinE n ls) := by
  intro m hm
  rcases List.mem_append.1 hm with hm | hm
  · exact cat_nm ls [] [] hl (fun _ h => by cases h) m hm
  · rw [List.mem_singleton.1 hm]; exact hn.with _
theorem nd0_nm (k p : Int) : Nm B (nd0 k p) := ⟨Nat.zero_le _, Nat.zero_le _, fun _ h => by cases h⟩
theorem leaf_nm {n : EN} (hn : Nm B n) : Sm B (leafE n) := join_nm hn fun _ h => by cases h
theorem no_nm : Sm B noE := leaf_nm (nd0_nm 1 0)
theorem Tm.ss {s r : PS} (h : SS s r) (g : Tm B s) : Tm B r := by
  obtain ⟨k, hk⟩ := h.suf
  intro t ht
  rw [hk] at ht
  exact g t (List.mem_of_mem_drop ht)
theorem Tm.peek {s : PS} (g : Tm B s) : s.peek.s.length ≤ B := by
  unfold PS.peek
  split
  · exact Nat.zero_le _
  · rename_i t r e
    exact g t (by rw [e]; exact List.mem_cons_self)
theorem Tm.of {s : PS} (g : Tm B s) (k : Int) : (s.of k).1.length ≤ B := by
  unfold PS.of
  split
  · exact g.peek
  · exact Nat.zero_le _
variable {ex : PS → PR} (hex : ∀ s, GP 1 s (ex s)) (hx : ∀ s, Tm B s → Sm B (ex s).1)
include hex hx
omit hex hx in
theorem field_nm {s : PS} (g : Tm B s) (l : List EF) : Fm B (fieldS s l).1 := ⟨g.of 2, Nat.zero_le _⟩
omit hex hx in
theorem branch_nm {s : PS} (g : Tm B s) (l : List EF) : Fm B (branchS s l).1 :=
  ⟨g.of 3, Tm.of (g.ss (SS.partp (s := s) (SS.of s 3) s.peek l fun _ h => peek_po h)) 2⟩
theorem parts_nm (between : List UInt8) (part : PS → List EF → EF × PS) (hp : ∀ s l, SS s (part s l).2) (hf : ∀ s l, Tm B s → Fm B (part s l).1) : ∀ (m : Nat) (s : PS) (l : List EF) (ks : List (List EN)), Tm B s → (∀ f ∈ l, Fm B f) → (∀ k ∈ ks, Sm B k) →
    (∀ f ∈ (partsS ex between part m s l ks).1, Fm B f) ∧ (∀ k ∈ (partsS ex between part m s l ks).2.1, Sm B k)
  | 0, s, l, ks, _, h1, h2 => ⟨h1, h2⟩
  | m + 1, s, l, ks, g, h1, h2 => by
    have g1 := g.ss (hp s l)
    have g2 := g1.ss (hex (part s l).2).ss
    have a1 : ∀ f ∈ l ++ [(part s l).1], Fm B f := fun f h => by
      rcases List.mem_append.1 h with h | h
      · exact h1 f h
      · rw [List.mem_singleton.1 h]; exact hf s l g
    have a2 : ∀ k ∈ ks ++ [(ex (part s l).2).1], Sm B k := fun k h => by
      rcases List.mem_append.1 h with h | h
      · exact h2 k h
      · rw [List.mem_singleton.1 h]; exact hx _ g1
    unfold partsS
    simp only
    split
    · exact parts_nm between part hp hf m _ _ _ (g2.ss (SS.next _)) a1 a2
    · exact ⟨a1, a2⟩
theorem record_nm (s : PS) (g : Tm B s) (pos : Int) : Sm B (recordS ex s pos).1 := by
  unfold recordS
  split
  · exact leaf_nm (nd0_nm 11 pos)
  · have h := parts_nm hex hx [44] fieldS SS.field (fun s l g => field_nm g l) s.l.length.succ s [] [] g (fun _ h => by cases h) (fun _ h => by cases h)
    exact join_nm ⟨Nat.zero_le _, Nat.zero_le _, h.1⟩ h.2
theorem cases_nm (s : PS) (g : Tm B s) (pos : Int) : Sm B (casesS ex s pos).1 := by
  unfold casesS
  have g1 := (g.ss (hex s).ss).ss (SS.must (ex s).2 1 bOf)
  simp only
  have h := parts_nm hex hx [124] branchS SS.branch (fun s l g => branch_nm g l) ((ex s).2.must 1 bOf).l.length.succ _ [] [] g1 (fun _ h => by cases h) (fun _ h => by cases h)
  refine join_nm ⟨Nat.zero_le _, Nat.zero_le _, h.1⟩ fun l hl => ?_
  rcases List.mem_cons.1 hl with rfl | hl
  · exact hx s g
  · exact h.2 l hl
theorem atom_nm (s : PS) (g : Tm B s) : Sm B (atomS ex s).1 := by
  have gn := g.ss (SS.next s)
  unfold atomS
  simp only
  repeat' split
  · exact no_nm
  · exact leaf_nm ⟨Nat.zero_le _, Nat.zero_le _, fun _ h => by cases h⟩
  · exact leaf_nm ⟨Nat.zero_le _, g.peek, fun _ h => by cases h⟩
  · exact leaf_nm ⟨g.peek, Nat.zero_le _, fun _ h => by cases h⟩
  · exact leaf_nm ⟨Nat.zero_le _, Nat.zero_le _, fun _ h => by cases h⟩
  · exact leaf_nm (nd0_nm _ _)
  · exact hx _ gn
  · exact record_nm hex hx _ gn _
  · exact cases_nm hex hx _ gn _
  · exact no_nm
omit hex hx in
theorem gets_nm : ∀ (m : Nat) (a : List EN) (s : PS), Sm B a → Tm B s → Sm B (getsS m a s).1
  | 0, _, _, h, _ => h
  | m + 1, a, s, h, g => by
    unfold getsS
    split
    · exact gets_nm m _ _ (join_nm ⟨(g.ss (SS.next s)).of 2, Nat.zero_le _, fun _ h => by cases h⟩ fun l hl => by rw [List.mem_singleton.1 hl]; exact h) ((g.ss (SS.next s)).ss (SS.of _ 2))
    · exact h
theorem post_nm (s : PS) (g : Tm B s) : Sm B (postS ex s).1 := gets_nm _ _ _ (atom_nm hex hx s g) (g.ss (atom_good hex s).1.ss)
theorem apps_nm : ∀ (m : Nat) (a : List EN) (s : PS), Sm B a → Tm B s → Sm B (appsS ex m a s).1
  | 0, _, _, h, _ => h
  | m + 1, a, s, h, g => by
    unfold appsS
    split
    · refine apps_nm m _ _ (join_nm (nd0_nm _ _) fun l hl => ?_) (g.ss (post_good hex s).1.ss)
      rcases List.mem_cons.1 hl with rfl | hl
      · exact h
      · rw [List.mem_singleton.1 hl]; exact post_nm hex hx s g
    · exact h
theorem app_nm (s : PS) (g : Tm B s) : Sm B (appS ex s).1 := by
  unfold appS
  simp only
  split
  · exact join_nm ⟨g.peek, Nat.zero_le _, fun _ h => by cases h⟩ fun l hl => by rw [List.mem_singleton.1 hl]; exact post_nm hex hx _ (g.ss (SS.next s))
  · exact apps_nm hex hx _ _ _ (post_nm hex hx s g) (g.ss (post_good hex s).1.ss)
omit hex hx in
theorem bin_nm (ops : List (List UInt8 × Int)) (sub : PS → PR) (h1 : ∀ s, SS s (sub s).2) (h2 : ∀ s, Tm B s → Sm B (sub s).1) : ∀ (m : Nat) (a : List EN) (s : PS), Sm B a → Tm B s → Sm B (binS ops sub m a s).1
  | 0, _, _, h, _ => h
  | m + 1, a, s, h, g => by
    unfold binS
    split
    · have gn := g.ss (SS.next s)
      refine bin_nm ops sub h1 h2 m _ _ (join_nm ⟨Nat.zero_le _, Nat.zero_le _, fun _ h => by cases h⟩ fun l hl => ?_) (gn.ss (h1 _))
      rcases List.mem_cons.1 hl with rfl | hl
      · exact h
      · rw [List.mem_singleton.1 hl]; exact h2 _ gn
    · exact h
theorem prod_nm (s : PS) (g : Tm B s) : Sm B (prodS ex s).1 := bin_nm _ _ (fun s => (app_good hex s).ss) (app_nm hex hx) _ _ _ (app_nm hex hx s g) (g.ss (app_good hex s).ss)
theorem sum_nm (s : PS) (g : Tm B s) : Sm B (sumS ex s).1 := bin_nm _ _ (fun s => (prod_good hex s).ss) (prod_nm hex hx) _ _ _ (prod_nm hex hx s g) (g.ss (prod_good hex s).ss)
theorem cmp_nm (s : PS) (g : Tm B s) : Sm B (cmpS ex s).1 := by
  unfold cmpS
  simp only
  split
  · refine join_nm ⟨Nat.zero_le _, Nat.zero_le _, fun _ h => by cases h⟩ fun l hl => ?_
    rcases List.mem_cons.1 hl with rfl | hl
    · exact sum_nm hex hx s g
    · rw [List.mem_singleton.1 hl]; exact sum_nm hex hx _ ((g.ss (sum_good hex s).ss).ss (SS.next _))
  · exact sum_nm hex hx s g
theorem let_nm (s : PS) (g : Tm B s) (pos : Int) : Sm B (letS ex s pos).1 := by
  unfold letS
  simp only
  obtain ⟨k, hk⟩ : ∃ k : Int, k = if s.sees 1 bRec = true then 8 else 7 := ⟨_, rfl⟩
  rw [← hk]
  have g1 := g.ss (SS.may s 1 bRec)
  have g2 := g1.ss (SS.of _ 2)
  have g3 := g2.ss (SS.must _ 7 [61])
  have g4 := g3.ss (hex _).ss
  refine join_nm ⟨g1.of 2, Nat.zero_le _, fun _ h => by cases h⟩ fun l hl => ?_
  rcases List.mem_cons.1 hl with rfl | hl
  · exact hx _ g3
  · rw [List.mem_singleton.1 hl]
    refine hx _ (Tm.ss (SS.must _ 1 bIn) ?_)
    split
    · intro t ht
      rw [fail_l] at ht
      exact g4 t ht
    · exact g4
theorem if_nm (s : PS) (g : Tm B s) (pos : Int) : Sm B (ifS ex s pos).1 := by
  unfold ifS
  simp only
  have g1 := (g.ss (hex _).ss).ss (SS.must _ 1 bThen)
  have g2 := (g1.ss (hex _).ss).ss (SS.must _ 1 bElse)
  refine join_nm (nd0_nm _ _) fun l hl => ?_
  simp only [List.mem_cons, List.not_mem_nil, or_false] at hl
  rcases hl with rfl | rfl | rfl
  · exact hx _ g
  · exact hx _ g1
  · exact hx _ g2
theorem body_nm (s : PS) (g : Tm B s) : Sm B (exprB ex s).1 := by
  have gn := g.ss (SS.next s)
  unfold exprB
  simp only
  repeat' split
  · exact join_nm ⟨gn.of 2, Nat.zero_le _, fun _ h => by cases h⟩ fun l hl => by rw [List.mem_singleton.1 hl]; exact hx _ ((gn.ss (SS.of _ 2)).ss (SS.must _ 7 bTo))
  · exact let_nm hex hx _ gn _
  · exact if_nm hex hx _ gn _
  · exact cmp_nm hex hx s g
end
theorem expr_nm {B : Nat} : ∀ (m : Nat) (s : PS), Tm B s → Sm B (exprS m s).1
  | 0, s, _ => no_nm
  | m + 1, s, g => by
    unfold exprS
    split
    · exact no_nm
    · exact body_nm (expr_good m) (expr_nm m) _ g
theorem takeG_s : ∀ (m : Nat) (r : List UInt8) (i : Nat) (acc : List UInt8), (takeG m r i acc).1.length ≤ 200
  | 0, _, _, _ => Nat.zero_le _
  | _ + 1, [], _, _ => Nat.zero_le _
  | m + 1, c :: r, i, acc => by
    unfold takeG
    split
    · split
      · exact Nat.zero_le _
      · simp only; omega
    split
    · split
      · exact Nat.zero_le _
      · exact takeG_s m _ _ _
    split
    · exact takeG_s m _ _ _
    · exact Nat.zero_le _
theorem one_s (s : List UInt8) : (oneS s).t.s.length ≤ 200 := by
  unfold oneS
  split
  · unfold wordS
    repeat' split
    · exact Nat.zero_le _
    all_goals (show (s.take _).length ≤ _; rw [List.length_take]; omega)
  split
  · unfold varS
    repeat' split
    · exact Nat.zero_le _
    · exact Nat.zero_le _
    · show ((s.drop 1).take _).length ≤ _; rw [List.length_take]; omega
  split
  · exact Nat.zero_le _
  split
  · unfold textS takeS
    repeat' split
    · exact Nat.zero_le _
    · exact takeG_s _ _ _ _
    · exact Nat.zero_le _
  · unfold signS
    repeat' split
    · show (s.take _).length ≤ _; rw [List.length_take]; omega
    · exact Nat.zero_le _
    · show (s.take _).length ≤ _; rw [List.length_take]; omega
theorem toks_s : ∀ (m : Nat) (s : List UInt8) (a : Nat), ∀ q ∈ toksG m s a, q.2.t.s.length ≤ 200
  | 0, _, _, _, h => by simp [toksG] at h
  | m + 1, s, a, q, h => by
    unfold toksG at h
    split at h
    · cases h
    split at h
    · rw [List.mem_singleton.1 h]; exact one_s _
    · rcases List.mem_cons.1 h with rfl | h
      · exact one_s _
      · exact toks_s m _ _ q h
theorem lex_s (s : List UInt8) : ∀ t ∈ (lexS s).1, t.s.length ≤ 200 := by
  unfold lexS
  split
  · intro _ h; cases h
  · intro t ht
    obtain ⟨q, hq, rfl⟩ := List.mem_map.1 ht
    exact toks_s _ _ _ q hq
end Go.Proofs.YtejpnabbmgpmaaaGreat
