/-
  Names, by the document: the same as the program's. (with the parts that follow it)
-/
import Derived.Test.YtejpnabbmgpmaaaGreatWI
import Derived.Test.YtejpnabbmgpmaaaGreatWD
import Derived.Test.YtejpnabbmgpmaaaGreatWG
set_option linter.unusedSimpArgs false
namespace Go.Proofs.YtejpnabbmgpmaaaGreat
open Go.Ab
theorem f230_ok {G} (c : UInt8) : HP Tryz.prog G 230 [u8 c] (fun r => r = .d (.bool (sm c))) := by
  refine funP_ok Tryz.func230 rfl (by decide +kernel) (by simp [Tryz.ntmps230]) (veil fun E => ?_)
  unfold u8
  simp only [go_sem]
  refine e_gifd E (fun h1 => ?_) (fun h1 => ?_) <;> simp only [go_sem]
  · refine e_gifd E (fun h2 => ?_) (fun h2 => ?_) <;> simp only [go_sem]
    · simp [sm, smZ, h1, h2]
    · simp [sm, smZ, h1, h2]
  · simp [sm, smZ, h1]
theorem f231_ok {G} (c : UInt8) : HP Tryz.prog G 231 [u8 c] (fun r => r = .d (.bool (gr c))) := by
  refine funP_ok Tryz.func231 rfl (by decide +kernel) (by simp [Tryz.ntmps231]) (veil fun E => ?_)
  unfold u8
  simp only [go_sem]
  refine e_gifd E (fun h1 => ?_) (fun h1 => ?_) <;> simp only [go_sem]
  · simp [gr, grZ, h1]
  · simp [gr, grZ, h1]
theorem f168_ok {G} (l : List UInt8) (hl : l.length ≤ 9223372036854775807) : HP Tryz.prog G 168 [.str l] (fun r => r = .d (i64 (wordN l))) := by
  refine funP_ok Tryz.func168 rfl (by decide +kernel) (by simp [Tryz.ntmps168]) (veil fun E => ?_)
  simp only [go_sem]
  refine e_gifd E (fun h0 => ?_) (fun h0 => ?_) <;> simp only [go_sem]
  · have : l = [] := List.length_eq_zero_iff.1 (by omega)
    subst this; rfl
  have h0 : 1 ≤ l.length := by omega
  refine ⟨by omega, ?_⟩
  refine e_call E (f230_ok (l.getD 0 0)) rfl rfl (by simp) ?_
  rintro _ rfl
  simp only [go_sem]
  refine e_gif E (fun h1 => ?_) (fun h1 => ?_) <;> simp only [go_sem]
  · have h1 : sm (l.getD 0 0) = false := by simpa using h1
    refine ⟨by omega, ?_⟩
    refine e_call E (f231_ok (l.getD 0 0)) rfl rfl (by simp) ?_
    rintro _ rfl
    simp only [go_sem]
    refine e_if E (fun h2 => ?_) (fun h2 => ?_) <;> simp only [go_sem]
    · have h2 : gr (l.getD 0 0) = false := by simpa using h2
      rw [wordN_cons h0, h1, h2]; rfl
    · have h2 : gr (l.getD 0 0) = true := by simpa using h2
      have hsg : (sm (l.getD 0 0) || gr (l.getD 0 0)) = true := by rw [h2, Bool.or_true]
      refine loopP_e E (X := { i : Nat // i ≤ l.length ∧ i + wlen (l.drop i) = wlen (l.drop 1) + 1 }) (fun x => [(0, .d (.str l)), (3, .d (i64 x.1))]) (fun x => l.length - x.1) rfl ⟨1, h0, by omega⟩ ?_ ?_
      · simp only [go_sem]
        all_goals rfl
      rintro ⟨i, hi, hw⟩ E'
      simp only [go_sem]
      have hn : wordN l = wlen (l.drop 1) + 1 := by rw [wordN_cons h0, hsg, if_pos rfl]
      refine e_gifd E' (fun h3 => ?_) (fun h3 => ?_) <;> simp only [go_sem]
      · have hi' : i < l.length := by omega
        have hwd := wlen_drop hi'
        have yes : mo (l.getD i 0) = true → ∃ y : { i : Nat // i ≤ l.length ∧ i + wlen (l.drop i) = wlen (l.drop 1) + 1 }, l.length - y.1 < l.length - i ∧ AV.d (.int .i64 (w64 ((i : Int) + 1))) = AV.d (i64 y.1) := fun h4 => by
          rw [h4, if_pos rfl] at hwd
          refine ⟨⟨i + 1, by omega, by omega⟩, by show l.length - (i + 1) < _; omega, ?_⟩
          rw [w64_in ⟨by omega, by omega⟩]; rfl
        have no : mo (l.getD i 0) = false → AV.d (i64 (i : Int)) = AV.d (i64 (wordN l : Nat)) := fun h4 => by
          rw [h4, if_neg (by simp)] at hwd
          rw [hn]
          exact congrArg (fun n : Nat => AV.d (i64 (n : Int))) (by omega)
        refine ⟨⟨by omega, by omega⟩, ?_⟩
        refine e_call E' (f230_ok (l.getD i 0)) rfl rfl (by simp) ?_
        rintro _ rfl
        simp only [go_sem]
        refine e_gif E' (fun h4 => ?_) (fun h4 => ?_) <;> simp only [go_sem]
        · exact yes (by simp only [mo, h4, Bool.true_or])
        refine ⟨⟨by omega, by omega⟩, ?_⟩
        refine e_call E' (f231_ok (l.getD i 0)) rfl rfl (by simp) ?_
        rintro _ rfl
        simp only [go_sem]
        refine e_gif E' (fun h5 => ?_) (fun h5 => ?_) <;> simp only [go_sem]
        · exact yes (by simp only [mo, h5, Bool.or_true, Bool.true_or])
        refine ⟨⟨by omega, by omega⟩, ?_⟩
        refine e_gifd E' (fun h6 => ?_) (fun h6 => ?_) <;> simp only [go_sem]
        · refine ⟨⟨by omega, by omega⟩, ?_⟩
          refine e_ifd E' (fun h7 => ?_) (fun h7 => ?_) <;> simp only [go_sem]
          · exact yes (by simp only [mo, h4, h5, diZ]; rw [decide_eq_true h6, decide_eq_true h7]; rfl)
          · exact no (by simp only [mo, h4, h5, diZ]; rw [decide_eq_false h7]; simp)
        · exact no (by simp only [mo, h4, h5, diZ]; rw [decide_eq_false h6]; simp)
      · have hil : i = l.length := by omega
        subst hil
        rw [wlen_end] at hw
        rw [hn]
        exact congrArg (fun n : Nat => AV.d (i64 (n : Int))) (by omega)
  · have h1 : sm (l.getD 0 0) = true := by simpa using h1
    have hsg : (sm (l.getD 0 0) || gr (l.getD 0 0)) = true := by rw [h1, Bool.true_or]
    refine loopP_e E (X := { i : Nat // i ≤ l.length ∧ i + wlen (l.drop i) = wlen (l.drop 1) + 1 }) (fun x => [(0, .d (.str l)), (3, .d (i64 x.1))]) (fun x => l.length - x.1) rfl ⟨1, h0, by omega⟩ ?_ ?_
    · simp only [go_sem]
      all_goals rfl
    rintro ⟨i, hi, hw⟩ E'
    simp only [go_sem]
    have hn : wordN l = wlen (l.drop 1) + 1 := by rw [wordN_cons h0, hsg, if_pos rfl]
    refine e_gifd E' (fun h3 => ?_) (fun h3 => ?_) <;> simp only [go_sem]
    · have hi' : i < l.length := by omega
      have hwd := wlen_drop hi'
      have yes : mo (l.getD i 0) = true → ∃ y : { i : Nat // i ≤ l.length ∧ i + wlen (l.drop i) = wlen (l.drop 1) + 1 }, l.length - y.1 < l.length - i ∧ AV.d (.int .i64 (w64 ((i : Int) + 1))) = AV.d (i64 y.1) := fun h4 => by
        rw [h4, if_pos rfl] at hwd
        refine ⟨⟨i + 1, by omega, by omega⟩, by show l.length - (i + 1) < _; omega, ?_⟩
        rw [w64_in ⟨by omega, by omega⟩]; rfl
      have no : mo (l.getD i 0) = false → AV.d (i64 (i : Int)) = AV.d (i64 (wordN l : Nat)) := fun h4 => by
        rw [h4, if_neg (by simp)] at hwd
        rw [hn]
        exact congrArg (fun n : Nat => AV.d (i64 (n : Int))) (by omega)
      refine ⟨⟨by omega, by omega⟩, ?_⟩
      refine e_call E' (f230_ok (l.getD i 0)) rfl rfl (by simp) ?_
      rintro _ rfl
      simp only [go_sem]
      refine e_gif E' (fun h4 => ?_) (fun h4 => ?_) <;> simp only [go_sem]
      · exact yes (by simp only [mo, h4, Bool.true_or])
      refine ⟨⟨by omega, by omega⟩, ?_⟩
      refine e_call E' (f231_ok (l.getD i 0)) rfl rfl (by simp) ?_
      rintro _ rfl
      simp only [go_sem]
      refine e_gif E' (fun h5 => ?_) (fun h5 => ?_) <;> simp only [go_sem]
      · exact yes (by simp only [mo, h5, Bool.or_true, Bool.true_or])
      refine ⟨⟨by omega, by omega⟩, ?_⟩
      refine e_gifd E' (fun h6 => ?_) (fun h6 => ?_) <;> simp only [go_sem]
      · refine ⟨⟨by omega, by omega⟩, ?_⟩
        refine e_ifd E' (fun h7 => ?_) (fun h7 => ?_) <;> simp only [go_sem]
        · exact yes (by simp only [mo, h4, h5, diZ]; rw [decide_eq_true h6, decide_eq_true h7]; rfl)
        · exact no (by simp only [mo, h4, h5, diZ]; rw [decide_eq_false h7]; simp)
      · exact no (by simp only [mo, h4, h5, diZ]; rw [decide_eq_false h6]; simp)
    · have hil : i = l.length := by omega
      subst hil
      rw [wlen_end] at hw
      rw [hn]
      exact congrArg (fun n : Nat => AV.d (i64 (n : Int))) (by omega)
theorem f234_ok {G} : HP Tryz.prog G 234 [] (fun r => r = .d (strs kwB)) := by
  refine funZ_ok Tryz.func234 rfl (by decide +kernel) (by simp [Tryz.ntmps234]) (veil fun E => ?_)
  simp only [go_sem]
  refine ⟨[([1], none, kwB.map .str)], ?_⟩
  simp only [go_sem]
  refine ⟨rfl, ?_⟩
  rfl
theorem f233_ok {G} (s : List UInt8) (l : List (List UInt8)) (hl : l.length ≤ 9223372036854775807) : HP Tryz.prog G 233 [.str s, strs l] (fun r => r = .d (.bool (decide (s ∈ l)))) := by
  refine funP_ok Tryz.func233 rfl (by decide +kernel) (by simp [Tryz.ntmps233]) (veil fun E => ?_)
  unfold strs
  simp only [go_sem]
  refine loopP_e E (X := { i : Nat // i ≤ l.length ∧ s ∉ l.take i }) (fun x => [(0, .d (.str s)), (1, .d (.sl none (l.map .str))), (5, .d (i64 x.1))]) (fun x => l.length - x.1) rfl ⟨0, by simp, by simp⟩ ?_ ?_
  · simp only [go_sem]
    all_goals rfl
  rintro ⟨i, hi, hm⟩ E'
  simp only [go_sem]
  refine e_ifd E' (fun h6 => ?_) (fun h6 => ?_) <;> simp only [go_sem]
  · have hi' : i < l.length := by omega
    refine ⟨⟨by omega, by omega⟩, ?_⟩
    rw [strs_get hi']
    simp only [go_sem]
    refine e_if E' (fun h7 => ?_) (fun h7 => ?_) <;> simp only [go_sem]
    · have h7 : l.getD i [] = s := by simpa using h7
      have : s ∈ l := by
        rw [← h7]
        simp [hi']
      rw [decide_eq_true this]
    · have h7 : l.getD i [] ≠ s := by simpa using h7
      refine ⟨⟨i + 1, by omega, take_mem hi' hm h7⟩, by show l.length - (i + 1) < _; omega, ?_⟩
      rw [w64_in ⟨by omega, by omega⟩]; rfl
  · have hil : i = l.length := by omega
    subst hil
    rw [List.take_length] at hm
    rw [decide_eq_false hm]
theorem f169_ok {G} (s : List UInt8) : HP Tryz.prog G 169 [.str s] (fun r => r = .d (.bool (isKw s))) := by
  refine funP_ok Tryz.func169 rfl (by decide +kernel) (by simp [Tryz.ntmps169]) (veil fun E => ?_)
  simp only [go_sem]
  refine e_call E f234_ok rfl rfl (by simp) ?_
  rintro _ rfl
  simp only [go_sem]
  refine e_call E (f233_ok s kwB kwLen) rfl rfl (by simp) ?_
  rintro _ rfl
  simp only [go_sem]
  rfl
theorem f165_ok {G} (s : List UInt8) (hl : s.length ≤ 9223372036854775807) : HP Tryz.prog G 165 [.str s] (fun r => r = .d (.bool (nameB s))) := by
  have hw : ¬ (0 < s.length ∧ s.length ≤ 20 ∧ wordN s = s.length) → wholeB s = false := fun h => by
    cases hw : wholeB s with
    | false => rfl
    | true =>
      refine absurd ?_ h
      simp only [wholeB, Bool.and_eq_true, decide_eq_true_eq] at hw
      exact ⟨whole_ne (by simp only [wholeB, Bool.and_eq_true, decide_eq_true_eq]; exact hw), hw.1.2, hw.2⟩
  have hwy : 0 < s.length → s.length ≤ 20 → wordN s = s.length → wholeB s = true := fun h1 h2 h3 => by
    simp only [wholeB, Bool.and_eq_true, decide_eq_true_eq]
    refine ⟨⟨?_, h2⟩, h3⟩
    cases s with
    | nil => simp at h1
    | cons c r => rfl
  refine funP_ok Tryz.func165 rfl (by decide +kernel) (by simp [Tryz.ntmps165]) (veil fun E => ?_)
  simp only [go_sem]
  refine e_gifd E (fun h1 => ?_) (fun h1 => ?_) <;> simp only [go_sem]
  · refine e_gifd E (fun h2 => ?_) (fun h2 => ?_) <;> simp only [go_sem]
    · refine e_call E (f168_ok s hl) rfl rfl (by simp) ?_
      rintro _ rfl
      simp only [go_sem]
      refine e_gifd E (fun h3 => ?_) (fun h3 => ?_) <;> simp only [go_sem]
      · have hwt := hwy (by omega) (by omega) (by omega)
        refine ⟨by omega, ?_⟩
        refine e_call E (f230_ok (s.getD 0 0)) rfl rfl (by simp) ?_
        rintro _ rfl
        simp only [go_sem]
        refine e_gif E (fun h4 => ?_) (fun h4 => ?_) <;> simp only [go_sem]
        · refine e_call E (f169_ok s) rfl rfl (by simp) ?_
          rintro _ rfl
          simp only [go_sem]
          simp only [nameB, hwt, h4, Bool.true_and]
        · simp only [nameB, hwt, h4, Bool.true_and, Bool.false_and]
      · simp only [nameB, hw (by omega), Bool.false_and]
    · simp only [nameB, hw (by omega), Bool.false_and]
  · simp only [nameB, hw (by omega), Bool.false_and]
theorem f166_ok {G} (s : List UInt8) (hl : s.length ≤ 9223372036854775807) : HP Tryz.prog G 166 [.str s] (fun r => r = .d (.bool (tagB s))) := by
  have hw : ¬ (0 < s.length ∧ s.length ≤ 20 ∧ wordN s = s.length) → wholeB s = false := fun h => by
    cases hw : wholeB s with
    | false => rfl
    | true =>
      refine absurd ?_ h
      simp only [wholeB, Bool.and_eq_true, decide_eq_true_eq] at hw
      exact ⟨whole_ne (by simp only [wholeB, Bool.and_eq_true, decide_eq_true_eq]; exact hw), hw.1.2, hw.2⟩
  have hwy : 0 < s.length → s.length ≤ 20 → wordN s = s.length → wholeB s = true := fun h1 h2 h3 => by
    simp only [wholeB, Bool.and_eq_true, decide_eq_true_eq]
    refine ⟨⟨?_, h2⟩, h3⟩
    cases s with
    | nil => simp at h1
    | cons c r => rfl
  refine funP_ok Tryz.func166 rfl (by decide +kernel) (by simp [Tryz.ntmps166]) (veil fun E => ?_)
  simp only [go_sem]
  refine e_gifd E (fun h1 => ?_) (fun h1 => ?_) <;> simp only [go_sem]
  · refine e_gifd E (fun h2 => ?_) (fun h2 => ?_) <;> simp only [go_sem]
    · refine e_call E (f168_ok s hl) rfl rfl (by simp) ?_
      rintro _ rfl
      simp only [go_sem]
      refine e_gifd E (fun h3 => ?_) (fun h3 => ?_) <;> simp only [go_sem]
      · have hwt := hwy (by omega) (by omega) (by omega)
        refine ⟨by omega, ?_⟩
        refine e_call E (f231_ok (s.getD 0 0)) rfl rfl (by simp) ?_
        rintro _ rfl
        simp only [go_sem]
        simp only [tagB, hwt, Bool.true_and]
      · simp only [tagB, hw (by omega), Bool.false_and]
    · simp only [tagB, hw (by omega), Bool.false_and]
  · simp only [tagB, hw (by omega), Bool.false_and]
theorem f232_ok {G} (l : List (List UInt8)) (hl : l.length ≤ 1000000) : HP Tryz.prog G 232 [strs l] (fun r => r = .d (.bool (twice l))) := by
  refine funP_ok Tryz.func232 rfl (by decide +kernel) (by simp [Tryz.ntmps232]) (veil fun E => ?_)
  unfold strs
  simp only [go_sem]
  refine loopP_e E (X := { i : Nat // i ≤ l.length ∧ (l.take i).Nodup }) (fun x => [(0, .d (.sl none (l.map .str))), (3, .d (i64 x.1))]) (fun x => l.length - x.1) rfl ⟨0, by simp⟩ ?_ ?_
  · simp only [go_sem]
    all_goals rfl
  rintro ⟨i, hi, hn⟩ E'
  simp only [go_sem]
  refine e_ifd E' (fun h1 => ?_) (fun h1 => ?_) <;> simp only [go_sem]
  · have hi' : i < l.length := by omega
    have hc := f233_ok (G := G) (l.getD i []) (l.take i) (by simp only [List.length_take]; omega)
    unfold strs at hc
    rw [List.map_take] at hc
    refine region_xv mixed E' fun X => ?_
    simp only [go_sem]
    refine ⟨⟨by omega, by omega⟩, ?_⟩
    rw [strs_get hi']
    simp only [go_sem]
    refine ⟨⟨by omega, by omega⟩, ?_⟩
    refine x_call X hc rfl (by first | rfl | (simp only [go_sem]; done) | (simp; done)) (by simp) ?_
    simp only [go_sem]
    refine ⟨by decide +kernel, ?_⟩
    refine e_ifd E' (fun h2 => ?_) (fun h2 => ?_) <;> simp only [go_sem]
    · rw [nd_not hi' h2]
    · refine ⟨⟨i + 1, by omega, nd_step hi' hn h2⟩, by show l.length - (i + 1) < _; omega, by rw [w64_in ⟨by omega, by omega⟩]; rfl⟩
  · have hil : i = l.length := by omega
    subst hil
    rw [List.take_length] at hn
    simp [twice, hn]
theorem len_pos (l : List EF) : decide (0 < (l.length : Int)) = !l.isEmpty := by cases l <;> simp <;> omega
theorem len_big (s : List UInt8) : decide (200 < (s.length : Int)) = !decide (s.length ≤ 200) := by
  by_cases h : s.length ≤ 200
  · rw [decide_eq_true h, decide_eq_false (by omega)]; rfl
  · rw [decide_eq_false h, decide_eq_true (by omega)]; rfl
theorem lt_one (m : Int) : decide (m < 1) = !decide (1 ≤ m) := by
  by_cases h : 1 ≤ m
  · rw [decide_eq_true h, decide_eq_false (by omega)]; rfl
  · rw [decide_eq_false h, decide_eq_true (by omega)]; rfl
theorem gt_7 (m : Int) : decide (7 < m) = !decide (m ≤ 7) := by
  by_cases h : m ≤ 7
  · rw [decide_eq_true h, decide_eq_false (by omega)]; rfl
  · rw [decide_eq_false h, decide_eq_true (by omega)]; rfl
theorem right_plain (n : EN) (hp : 0 ≤ n.pos ∧ n.pos ≤ 1048576) (hk : 1 ≤ n.k ∧ n.k ≤ 14) :
    rightE n = (!(decide (¬n.k = 1) && decide (¬n.k = 2) && decide (¬n.k = 10) && decide (¬n.n = 0) || decide (¬n.k = 3) && !n.s == [] || decide (¬n.k = 11) && decide (¬n.k = 14) && decide (0 < (n.l.length : Int)))
      && (!(!(decide (n.k = 5) || decide (n.k = 12) || decide (n.k = 13) || decide (n.k = 14)) && !(decide (n.k = 6) || decide (n.k = 7) || decide (n.k = 8) || decide (n.k = 10)) && decide (¬n.k = 9) && decide (¬n.a = 0) || !(decide (n.k = 6) || decide (n.k = 7) || decide (n.k = 8) || decide (n.k = 10)) && decide (¬n.k = 9) && decide (¬n.b = 0) || decide (¬n.k = 9) && decide (¬n.c = 0))
      && (!((decide (n.k = 4) || decide (n.k = 5) || decide (n.k = 7) || decide (n.k = 8) || decide (n.k = 12)) && !nameB n.name || decide (n.k = 13) && !tagB n.name || !(decide (n.k = 4) || decide (n.k = 5) || decide (n.k = 7) || decide (n.k = 8) || decide (n.k = 12)) && decide (¬n.k = 13) && !n.name == [])
      && (!(decide (n.k = 2) && decide (¬n.n = 0) && decide (¬n.n = 1) || decide (n.k = 10) && (decide (n.n < 1) || decide (7 < n.n)) || decide (n.k = 3) && decide (200 < (n.s.length : Int)))
      && (decide (¬n.k = 11) && decide (¬n.k = 14) || partedB n))))) := by
  have hr : rightE n = (namedB n && countedB n && partedB n && unusedB n) := by
    unfold rightE
    rw [decide_eq_true hk.1, decide_eq_true hk.2, decide_eq_true hp.1, decide_eq_true hp.2]
    simp
  have hk' : n.k = 1 ∨ n.k = 2 ∨ n.k = 3 ∨ n.k = 4 ∨ n.k = 5 ∨ n.k = 6 ∨ n.k = 7 ∨ n.k = 8 ∨ n.k = 9 ∨ n.k = 10 ∨ n.k = 11 ∨ n.k = 12 ∨ n.k = 13 ∨ n.k = 14 := by omega
  rw [hr, len_pos, len_big, lt_one, gt_7]
  clear hr hk hp
  obtain ⟨k, a, b, c, m, nm, s, l, p⟩ := n
  simp only [nil_beq] at hk' ⊢
  unfold namedB countedB unusedB
  have hpt : ∀ k, partsZ k = false → partedB ⟨k, a, b, c, m, nm, s, l, p⟩ = l.isEmpty := fun k h => by unfold partedB; rw [h]; rfl
  rcases hk' with rfl | rfl | rfl | rfl | rfl | rfl | rfl | rfl | rfl | rfl | rfl | rfl | rfl | rfl
  all_goals
    first | rw [hpt _ rfl] | skip
    try generalize partedB _ = y
    generalize s.isEmpty = b1
    generalize nm.isEmpty = b2
    try generalize l.isEmpty = b3
    try generalize nameB nm = b4
    try generalize tagB nm = b5
    simp [kidN]
    first | done | ac_rfl | (generalize decide (m = 0) = d0; generalize decide (m = 1) = d1; cases d0 <;> cases d1 <;> simp <;> ac_rfl) | (generalize decide (1 ≤ m) = d0; generalize decide (m ≤ 7) = d1; cases d0 <;> cases d1 <;> simp <;> ac_rfl)
theorem Y_le {P : Program} {cf : Cf} {Φ : Exit → Act → World → Prop} {I : Base → List Deferred → Prop} {k : List It} {s : St} (fr : List (Nat × AV)) (hp : List (Name × Ob)) (u : List Nat) (hle : LeL cf.U id s fr hp u) (h : ARY P cf Φ I k (mk fr hp u)) : ARY P cf Φ I k s := by
  intro B hB ds β a w hds hI hs
  obtain ⟨β2, hs2, _⟩ := hs.le (τ := id) (by rw [hB.2.1]; exact hle.le)
  exact h B hB ds β2 a w hds hI hs2
theorem f117_out {G} (n : EN) (h : ¬ (1 ≤ n.k ∧ n.k ≤ 14 ∧ 0 ≤ n.pos ∧ n.pos ≤ 1048576)) : HP Tryz.prog G 117 [enD n] (fun r => r = .d (.bool (rightE n))) := by
  have : (decide (1 ≤ n.k) && decide (n.k ≤ 14) && decide (0 ≤ n.pos) && decide (n.pos ≤ 1048576)) = false := by
    rw [Bool.eq_false_iff]
    intro hc
    simp only [Bool.and_eq_true, decide_eq_true_eq] at hc
    omega
  have hr : rightE n = false := by rw [rightE, this, Bool.false_and]
  rw [hr]
  unfold enD efD
  refine funP_ok Tryz.func117 rfl (by decide +kernel) (by simp [Tryz.ntmps117]) (veil fun E => ?_)
  simp only [go_sem]
  repeat (first
    | (apply e_gm E; (· simp only [go_sem]); (· intro h; (try simp only [Bool.and_eq_true, Bool.not_eq_true', Bool.not_eq_false'] at h); simp only [↓h, go_sem]; rfl); simp only [go_sem])
    | (apply e_gpk E; (· simp only [go_sem]); (· intro h; (try simp only [Bool.and_eq_true, Bool.not_eq_true', Bool.not_eq_false'] at h); simp only [↓h, go_sem]; rfl); (· intro h; (try simp only [Bool.and_eq_true, Bool.not_eq_true', Bool.not_eq_false'] at h); simp only [↓h, go_sem]; rfl); simp only [go_sem])
    | (apply e_gm2 E; (· simp only [go_sem]); (· rfl); (· intro h h'; (try simp only [Bool.and_eq_true, Bool.not_eq_true', Bool.not_eq_false'] at h h'); simp only [↓h, ↓h', go_sem]; rfl); simp only [go_sem])
    | (apply e_gpk2 E; (· simp only [go_sem]); (· rfl); (· intro h h'; (try simp only [Bool.and_eq_true, Bool.not_eq_true', Bool.not_eq_false'] at h h'); simp only [↓h, ↓h', go_sem]; rfl); (· intro h h'; (try simp only [Bool.and_eq_true, Bool.not_eq_true', Bool.not_eq_false'] at h h'); simp only [↓h, ↓h', go_sem]; rfl); simp only [go_sem])
    | (apply e_pk E; (· decide); simp only [go_sem]))
  refine e_if E (fun _ => ?_) (fun g => absurd ?_ h)
  · simp only [go_sem]
  · simp only [Bool.or_eq_false_iff, decide_eq_false_iff_not] at g
    omega
set_option maxRecDepth 10000 in
set_option maxHeartbeats 4000000 in
theorem f117_in {G} (n : EN) (h : n.name.length ≤ BIG) (hp : 0 ≤ n.pos ∧ n.pos ≤ 1048576) (hk : 1 ≤ n.k ∧ n.k ≤ 14) (c3 : n.k = 11 ∨ n.k = 14 → HP Tryz.prog G 167 [enD n] (fun r => r = .d (.bool (partedB n)))) :
    HP Tryz.prog G 117 [enD n] (fun r => r = .d (.bool (rightE n))) := by
  have c1 := f165_ok (G := G) n.name h
  have c2 := f166_ok (G := G) n.name h
  have hP := right_plain n hp hk
  unfold enD efD at *
  refine funR_ok Tryz.func117 rfl (by decide +kernel) (by simp [Tryz.ntmps117]) fun B0 hB0 => ?_
  refine Y_seq (Y_codeE fun E => ?_)
  simp only [go_sem]
  refine Y_seq (Y_codeE fun E => ?_)
  simp only [go_sem]
  repeat (first
    | (apply e_gm E; (· simp only [go_sem]); (· intro h; (try simp only [Bool.and_eq_true, Bool.not_eq_true', Bool.not_eq_false'] at h); simp only [↓h, go_sem]; rfl); simp only [go_sem])
    | (apply e_gpk E; (· simp only [go_sem]); (· intro h; (try simp only [Bool.and_eq_true, Bool.not_eq_true', Bool.not_eq_false'] at h); simp only [↓h, go_sem]; rfl); (· intro h; (try simp only [Bool.and_eq_true, Bool.not_eq_true', Bool.not_eq_false'] at h); simp only [↓h, go_sem]; rfl); simp only [go_sem])
    | (apply e_gm2 E; (· simp only [go_sem]); (· rfl); (· intro h h'; (try simp only [Bool.and_eq_true, Bool.not_eq_true', Bool.not_eq_false'] at h h'); simp only [↓h, ↓h', go_sem]; rfl); simp only [go_sem])
    | (apply e_gpk2 E; (· simp only [go_sem]); (· rfl); (· intro h h'; (try simp only [Bool.and_eq_true, Bool.not_eq_true', Bool.not_eq_false'] at h h'); simp only [↓h, ↓h', go_sem]; rfl); (· intro h h'; (try simp only [Bool.and_eq_true, Bool.not_eq_true', Bool.not_eq_false'] at h h'); simp only [↓h, ↓h', go_sem]; rfl); simp only [go_sem])
    | (apply e_pk E; (· decide); simp only [go_sem]))
  refine e_if E (fun g => absurd (show n.pos < 0 ∨ 1048576 < n.pos ∨ n.k < 1 ∨ 14 < n.k by simpa [or_assoc] using g) (by omega)) (fun _ => ?_)
  simp only [go_sem]
  refine Y_le [(1, .at [1] 0), (2, .d (.bool false))] [([1], .box [.d (i64 n.k), .d (i64 n.a), .d (i64 n.b), .d (i64 n.c), .d (i64 n.n), .d (.str n.name), .d (.str n.s), .d (.sl (some 3) (n.l.map fD)), .d (i64 n.pos)])] [1] (by simp only [go_sem]) ?_
  refine Y_seq (Y_codeE fun E => ?_)
  simp only [go_sem]
  refine Y_le [(1, .at [1] 0), (2, .d (.bool false)), (3, .d (i64 n.k))] [([1], .box [.d (i64 n.k), .d (i64 n.a), .d (i64 n.b), .d (i64 n.c), .d (i64 n.n), .d (.str n.name), .d (.str n.s), .d (.sl (some 3) (n.l.map fD)), .d (i64 n.pos)])] [1] (by simp only [go_sem]) ?_
  refine Y_seq (Y_codeE fun E => ?_)
  simp only [go_sem]
  repeat (first
    | (apply e_gm E; (· simp only [go_sem]); (· intro h; (try simp only [Bool.and_eq_true, Bool.not_eq_true', Bool.not_eq_false'] at h); simp only [↓h, go_sem]; rfl); simp only [go_sem])
    | (apply e_gpk E; (· simp only [go_sem]); (· intro h; (try simp only [Bool.and_eq_true, Bool.not_eq_true', Bool.not_eq_false'] at h); simp only [↓h, go_sem]; rfl); (· intro h; (try simp only [Bool.and_eq_true, Bool.not_eq_true', Bool.not_eq_false'] at h); simp only [↓h, go_sem]; rfl); simp only [go_sem])
    | (apply e_gm2 E; (· simp only [go_sem]); (· rfl); (· intro h h'; (try simp only [Bool.and_eq_true, Bool.not_eq_true', Bool.not_eq_false'] at h h'); simp only [↓h, ↓h', go_sem]; rfl); simp only [go_sem])
    | (apply e_gpk2 E; (· simp only [go_sem]); (· rfl); (· intro h h'; (try simp only [Bool.and_eq_true, Bool.not_eq_true', Bool.not_eq_false'] at h h'); simp only [↓h, ↓h', go_sem]; rfl); (· intro h h'; (try simp only [Bool.and_eq_true, Bool.not_eq_true', Bool.not_eq_false'] at h h'); simp only [↓h, ↓h', go_sem]; rfl); simp only [go_sem])
    | (apply e_pk E; (· decide); simp only [go_sem]))
  refine e_if E (fun g => ?_) (fun g => ?_)
  · simp only [go_sem]
    refine X_retZ (.inl rfl) hB0 ?_
    simp only [go_sem]
    refine ⟨[], ?_⟩
    simp only [go_sem]
    rw [hP, g]; simp
  simp only [go_sem]
  refine Y_le [(1, .at [1] 0), (2, .d (.bool false)), (3, .d (i64 n.k))] [([1], .box [.d (i64 n.k), .d (i64 n.a), .d (i64 n.b), .d (i64 n.c), .d (i64 n.n), .d (.str n.name), .d (.str n.s), .d (.sl (some 3) (n.l.map fD)), .d (i64 n.pos)])] [1] (by simp only [go_sem]) ?_
  refine Y_seq (Y_codeE fun E => ?_)
  simp only [go_sem]
  repeat (first
    | (apply e_gm E; (· simp only [go_sem]); (· intro h; (try simp only [Bool.and_eq_true, Bool.not_eq_true', Bool.not_eq_false'] at h); simp only [↓h, go_sem]; rfl); simp only [go_sem])
    | (apply e_gpk E; (· simp only [go_sem]); (· intro h; (try simp only [Bool.and_eq_true, Bool.not_eq_true', Bool.not_eq_false'] at h); simp only [↓h, go_sem]; rfl); (· intro h; (try simp only [Bool.and_eq_true, Bool.not_eq_true', Bool.not_eq_false'] at h); simp only [↓h, go_sem]; rfl); simp only [go_sem])
    | (apply e_gm2 E; (· simp only [go_sem]); (· rfl); (· intro h h'; (try simp only [Bool.and_eq_true, Bool.not_eq_true', Bool.not_eq_false'] at h h'); simp only [↓h, ↓h', go_sem]; rfl); simp only [go_sem])
    | (apply e_gpk2 E; (· simp only [go_sem]); (· rfl); (· intro h h'; (try simp only [Bool.and_eq_true, Bool.not_eq_true', Bool.not_eq_false'] at h h'); simp only [↓h, ↓h', go_sem]; rfl); (· intro h h'; (try simp only [Bool.and_eq_true, Bool.not_eq_true', Bool.not_eq_false'] at h h'); simp only [↓h, ↓h', go_sem]; rfl); simp only [go_sem])
    | (apply e_pk E; (· decide); simp only [go_sem]))
  refine Y_le [(1, .at [1] 0), (2, .d (.bool false)), (3, .d (i64 n.k)), (4, .d (.bool (decide (n.k = 5) || decide (n.k = 12) || decide (n.k = 13) || decide (n.k = 14))))] [([1], .box [.d (i64 n.k), .d (i64 n.a), .d (i64 n.b), .d (i64 n.c), .d (i64 n.n), .d (.str n.name), .d (.str n.s), .d (.sl (some 3) (n.l.map fD)), .d (i64 n.pos)])] [1] (by simp only [go_sem]) ?_
  refine Y_seq (Y_codeE fun E => ?_)
  simp only [go_sem]
  repeat (first
    | (apply e_gm E; (· simp only [go_sem]); (· intro h; (try simp only [Bool.and_eq_true, Bool.not_eq_true', Bool.not_eq_false'] at h); simp only [↓h, go_sem]; rfl); simp only [go_sem])
    | (apply e_gpk E; (· simp only [go_sem]); (· intro h; (try simp only [Bool.and_eq_true, Bool.not_eq_true', Bool.not_eq_false'] at h); simp only [↓h, go_sem]; rfl); (· intro h; (try simp only [Bool.and_eq_true, Bool.not_eq_true', Bool.not_eq_false'] at h); simp only [↓h, go_sem]; rfl); simp only [go_sem])
    | (apply e_gm2 E; (· simp only [go_sem]); (· rfl); (· intro h h'; (try simp only [Bool.and_eq_true, Bool.not_eq_true', Bool.not_eq_false'] at h h'); simp only [↓h, ↓h', go_sem]; rfl); simp only [go_sem])
    | (apply e_gpk2 E; (· simp only [go_sem]); (· rfl); (· intro h h'; (try simp only [Bool.and_eq_true, Bool.not_eq_true', Bool.not_eq_false'] at h h'); simp only [↓h, ↓h', go_sem]; rfl); (· intro h h'; (try simp only [Bool.and_eq_true, Bool.not_eq_true', Bool.not_eq_false'] at h h'); simp only [↓h, ↓h', go_sem]; rfl); simp only [go_sem])
    | (apply e_pk E; (· decide); simp only [go_sem]))
  obtain ⟨one, h1⟩ : ∃ b, b = (decide (n.k = 5) || decide (n.k = 12) || decide (n.k = 13) || decide (n.k = 14)) := ⟨_, rfl⟩
  obtain ⟨two, h2⟩ : ∃ b, b = (decide (n.k = 6) || decide (n.k = 7) || decide (n.k = 8) || decide (n.k = 10)) := ⟨_, rfl⟩
  refine Y_le [(1, .at [1] 0), (2, .d (.bool false)), (3, .d (i64 n.k)), (4, .d (.bool (decide (n.k = 5) || decide (n.k = 12) || decide (n.k = 13) || decide (n.k = 14)))), (5, .d (.bool (decide (n.k = 6) || decide (n.k = 7) || decide (n.k = 8) || decide (n.k = 10))))] [([1], .box [.d (i64 n.k), .d (i64 n.a), .d (i64 n.b), .d (i64 n.c), .d (i64 n.n), .d (.str n.name), .d (.str n.s), .d (.sl (some 3) (n.l.map fD)), .d (i64 n.pos)])] [1] (by simp only [go_sem]) ?_
  rw [← h1, ← h2]
  refine Y_seq (Y_codeE fun E => ?_)
  simp only [go_sem]
  repeat (first
    | (apply e_gm E; (· simp only [go_sem]); (· intro h; (try simp only [Bool.and_eq_true, Bool.not_eq_true', Bool.not_eq_false'] at h); simp only [↓h, go_sem]; rfl); simp only [go_sem])
    | (apply e_gpk E; (· simp only [go_sem]); (· intro h; (try simp only [Bool.and_eq_true, Bool.not_eq_true', Bool.not_eq_false'] at h); simp only [↓h, go_sem]; rfl); (· intro h; (try simp only [Bool.and_eq_true, Bool.not_eq_true', Bool.not_eq_false'] at h); simp only [↓h, go_sem]; rfl); simp only [go_sem])
    | (apply e_gm2 E; (· simp only [go_sem]); (· rfl); (· intro h h'; (try simp only [Bool.and_eq_true, Bool.not_eq_true', Bool.not_eq_false'] at h h'); simp only [↓h, ↓h', go_sem]; rfl); simp only [go_sem])
    | (apply e_gpk2 E; (· simp only [go_sem]); (· rfl); (· intro h h'; (try simp only [Bool.and_eq_true, Bool.not_eq_true', Bool.not_eq_false'] at h h'); simp only [↓h, ↓h', go_sem]; rfl); (· intro h h'; (try simp only [Bool.and_eq_true, Bool.not_eq_true', Bool.not_eq_false'] at h h'); simp only [↓h, ↓h', go_sem]; rfl); simp only [go_sem])
    | (apply e_pk E; (· decide); simp only [go_sem]))
  refine e_if E (fun g3 => ?_) (fun g3 => ?_)
  · simp only [go_sem]
    refine X_retZ (.inl rfl) hB0 ?_
    simp only [go_sem]
    refine ⟨[], ?_⟩
    simp only [go_sem]
    rw [hP, ← h1, ← h2, g3]; simp
  simp only [go_sem]
  refine Y_le [(1, .at [1] 0), (2, .d (.bool false)), (3, .d (i64 n.k))] [([1], .box [.d (i64 n.k), .d (i64 n.a), .d (i64 n.b), .d (i64 n.c), .d (i64 n.n), .d (.str n.name), .d (.str n.s), .d (.sl (some 3) (n.l.map fD)), .d (i64 n.pos)])] [1] (by simp only [go_sem]) ?_
  refine Y_seq (Y_codeE fun E => ?_)
  simp only [go_sem]
  repeat (first
    | (apply e_gm E; (· simp only [go_sem]); (· intro h; (try simp only [Bool.and_eq_true, Bool.not_eq_true', Bool.not_eq_false'] at h); simp only [↓h, go_sem]; rfl); simp only [go_sem])
    | (apply e_gpk E; (· simp only [go_sem]); (· intro h; (try simp only [Bool.and_eq_true, Bool.not_eq_true', Bool.not_eq_false'] at h); simp only [↓h, go_sem]; rfl); (· intro h; (try simp only [Bool.and_eq_true, Bool.not_eq_true', Bool.not_eq_false'] at h); simp only [↓h, go_sem]; rfl); simp only [go_sem])
    | (apply e_gm2 E; (· simp only [go_sem]); (· rfl); (· intro h h'; (try simp only [Bool.and_eq_true, Bool.not_eq_true', Bool.not_eq_false'] at h h'); simp only [↓h, ↓h', go_sem]; rfl); simp only [go_sem])
    | (apply e_gpk2 E; (· simp only [go_sem]); (· rfl); (· intro h h'; (try simp only [Bool.and_eq_true, Bool.not_eq_true', Bool.not_eq_false'] at h h'); simp only [↓h, ↓h', go_sem]; rfl); (· intro h h'; (try simp only [Bool.and_eq_true, Bool.not_eq_true', Bool.not_eq_false'] at h h'); simp only [↓h, ↓h', go_sem]; rfl); simp only [go_sem])
    | (apply e_pk E; (· decide); simp only [go_sem]))
  obtain ⟨six, h6⟩ : ∃ b, b = (decide (n.k = 4) || decide (n.k = 5) || decide (n.k = 7) || decide (n.k = 8) || decide (n.k = 12)) := ⟨_, rfl⟩
  refine Y_le [(1, .at [1] 0), (2, .d (.bool false)), (3, .d (i64 n.k)), (6, .d (.bool (decide (n.k = 4) || decide (n.k = 5) || decide (n.k = 7) || decide (n.k = 8) || decide (n.k = 12))))] [([1], .box [.d (i64 n.k), .d (i64 n.a), .d (i64 n.b), .d (i64 n.c), .d (i64 n.n), .d (.str n.name), .d (.str n.s), .d (.sl (some 3) (n.l.map fD)), .d (i64 n.pos)])] [1] (by simp only [go_sem]) ?_
  rw [← h6]
  refine Y_seq (Y_codeE fun E => ?_)
  simp only [go_sem]
  repeat (first
    | (apply e_gm E; (· simp only [go_sem]); (· intro h; (try simp only [Bool.and_eq_true, Bool.not_eq_true', Bool.not_eq_false'] at h); simp only [↓h, go_sem]; rfl); simp only [go_sem])
    | (apply e_gpk E; (· simp only [go_sem]); (· intro h; (try simp only [Bool.and_eq_true, Bool.not_eq_true', Bool.not_eq_false'] at h); simp only [↓h, go_sem]; rfl); (· intro h; (try simp only [Bool.and_eq_true, Bool.not_eq_true', Bool.not_eq_false'] at h); simp only [↓h, go_sem]; rfl); simp only [go_sem])
    | (apply e_gm2 E; (· simp only [go_sem]); (· rfl); (· intro h h'; (try simp only [Bool.and_eq_true, Bool.not_eq_true', Bool.not_eq_false'] at h h'); simp only [↓h, ↓h', go_sem]; rfl); simp only [go_sem])
    | (apply e_gpk2 E; (· simp only [go_sem]); (· rfl); (· intro h h'; (try simp only [Bool.and_eq_true, Bool.not_eq_true', Bool.not_eq_false'] at h h'); simp only [↓h, ↓h', go_sem]; rfl); (· intro h h'; (try simp only [Bool.and_eq_true, Bool.not_eq_true', Bool.not_eq_false'] at h h'); simp only [↓h, ↓h', go_sem]; rfl); simp only [go_sem])
    | (apply e_pk E; (· decide); simp only [go_sem]))
  (first | (apply e_gmx E; (· simp only [go_sem]); (· intro h hk; (try simp only [Bool.and_eq_true, Bool.not_eq_true', Bool.not_eq_false'] at h); refine e_call E (c1) rfl (by simp only [↓h, go_sem] <;> rfl) (by simp) ?_; rintro _ rfl; exact hk); simp only [go_sem]) | (apply e_gmx2 E; (· simp only [go_sem]); (· rfl); (· intro h h' hk; (try simp only [Bool.and_eq_true, Bool.not_eq_true', Bool.not_eq_false'] at h h'); refine e_call E (c1) rfl (by simp only [↓h, ↓h', go_sem] <;> rfl) (by simp) ?_; rintro _ rfl; exact hk); simp only [go_sem]))
  repeat (first
    | (apply e_gm E; (· simp only [go_sem]); (· intro h; (try simp only [Bool.and_eq_true, Bool.not_eq_true', Bool.not_eq_false'] at h); simp only [↓h, go_sem]; rfl); simp only [go_sem])
    | (apply e_gpk E; (· simp only [go_sem]); (· intro h; (try simp only [Bool.and_eq_true, Bool.not_eq_true', Bool.not_eq_false'] at h); simp only [↓h, go_sem]; rfl); (· intro h; (try simp only [Bool.and_eq_true, Bool.not_eq_true', Bool.not_eq_false'] at h); simp only [↓h, go_sem]; rfl); simp only [go_sem])
    | (apply e_gm2 E; (· simp only [go_sem]); (· rfl); (· intro h h'; (try simp only [Bool.and_eq_true, Bool.not_eq_true', Bool.not_eq_false'] at h h'); simp only [↓h, ↓h', go_sem]; rfl); simp only [go_sem])
    | (apply e_gpk2 E; (· simp only [go_sem]); (· rfl); (· intro h h'; (try simp only [Bool.and_eq_true, Bool.not_eq_true', Bool.not_eq_false'] at h h'); simp only [↓h, ↓h', go_sem]; rfl); (· intro h h'; (try simp only [Bool.and_eq_true, Bool.not_eq_true', Bool.not_eq_false'] at h h'); simp only [↓h, ↓h', go_sem]; rfl); simp only [go_sem])
    | (apply e_pk E; (· decide); simp only [go_sem]))
  (first | (apply e_gmx E; (· simp only [go_sem]); (· intro h hk; (try simp only [Bool.and_eq_true, Bool.not_eq_true', Bool.not_eq_false'] at h); refine e_call E (c2) rfl (by simp only [↓h, go_sem] <;> rfl) (by simp) ?_; rintro _ rfl; exact hk); simp only [go_sem]) | (apply e_gmx2 E; (· simp only [go_sem]); (· rfl); (· intro h h' hk; (try simp only [Bool.and_eq_true, Bool.not_eq_true', Bool.not_eq_false'] at h h'); refine e_call E (c2) rfl (by simp only [↓h, ↓h', go_sem] <;> rfl) (by simp) ?_; rintro _ rfl; exact hk); simp only [go_sem]))
  repeat (first
    | (apply e_gm E; (· simp only [go_sem]); (· intro h; (try simp only [Bool.and_eq_true, Bool.not_eq_true', Bool.not_eq_false'] at h); simp only [↓h, go_sem]; rfl); simp only [go_sem])
    | (apply e_gpk E; (· simp only [go_sem]); (· intro h; (try simp only [Bool.and_eq_true, Bool.not_eq_true', Bool.not_eq_false'] at h); simp only [↓h, go_sem]; rfl); (· intro h; (try simp only [Bool.and_eq_true, Bool.not_eq_true', Bool.not_eq_false'] at h); simp only [↓h, go_sem]; rfl); simp only [go_sem])
    | (apply e_gm2 E; (· simp only [go_sem]); (· rfl); (· intro h h'; (try simp only [Bool.and_eq_true, Bool.not_eq_true', Bool.not_eq_false'] at h h'); simp only [↓h, ↓h', go_sem]; rfl); simp only [go_sem])
    | (apply e_gpk2 E; (· simp only [go_sem]); (· rfl); (· intro h h'; (try simp only [Bool.and_eq_true, Bool.not_eq_true', Bool.not_eq_false'] at h h'); simp only [↓h, ↓h', go_sem]; rfl); (· intro h h'; (try simp only [Bool.and_eq_true, Bool.not_eq_true', Bool.not_eq_false'] at h h'); simp only [↓h, ↓h', go_sem]; rfl); simp only [go_sem])
    | (apply e_pk E; (· decide); simp only [go_sem]))
  refine e_if E (fun g4 => ?_) (fun g4 => ?_)
  · simp only [go_sem]
    refine X_retZ (.inl rfl) hB0 ?_
    simp only [go_sem]
    refine ⟨[], ?_⟩
    simp only [go_sem]
    rw [hP, ← h6, g4]; simp
  simp only [go_sem]
  refine Y_le [(1, .at [1] 0), (2, .d (.bool false)), (3, .d (i64 n.k))] [([1], .box [.d (i64 n.k), .d (i64 n.a), .d (i64 n.b), .d (i64 n.c), .d (i64 n.n), .d (.str n.name), .d (.str n.s), .d (.sl (some 3) (n.l.map fD)), .d (i64 n.pos)])] [1] (by simp only [go_sem]) ?_
  refine Y_seq (Y_codeE fun E => ?_)
  simp only [go_sem]
  repeat (first
    | (apply e_gm E; (· simp only [go_sem]); (· intro h; (try simp only [Bool.and_eq_true, Bool.not_eq_true', Bool.not_eq_false'] at h); simp only [↓h, go_sem]; rfl); simp only [go_sem])
    | (apply e_gpk E; (· simp only [go_sem]); (· intro h; (try simp only [Bool.and_eq_true, Bool.not_eq_true', Bool.not_eq_false'] at h); simp only [↓h, go_sem]; rfl); (· intro h; (try simp only [Bool.and_eq_true, Bool.not_eq_true', Bool.not_eq_false'] at h); simp only [↓h, go_sem]; rfl); simp only [go_sem])
    | (apply e_gm2 E; (· simp only [go_sem]); (· rfl); (· intro h h'; (try simp only [Bool.and_eq_true, Bool.not_eq_true', Bool.not_eq_false'] at h h'); simp only [↓h, ↓h', go_sem]; rfl); simp only [go_sem])
    | (apply e_gpk2 E; (· simp only [go_sem]); (· rfl); (· intro h h'; (try simp only [Bool.and_eq_true, Bool.not_eq_true', Bool.not_eq_false'] at h h'); simp only [↓h, ↓h', go_sem]; rfl); (· intro h h'; (try simp only [Bool.and_eq_true, Bool.not_eq_true', Bool.not_eq_false'] at h h'); simp only [↓h, ↓h', go_sem]; rfl); simp only [go_sem])
    | (apply e_pk E; (· decide); simp only [go_sem]))
  refine e_if E (fun g5 => ?_) (fun g5 => ?_)
  · simp only [go_sem]
    refine X_retZ (.inl rfl) hB0 ?_
    simp only [go_sem]
    refine ⟨[], ?_⟩
    simp only [go_sem]
    rw [hP, g5]; simp
  simp only [go_sem]
  refine Y_le [(1, .at [1] 0), (2, .d (.bool false)), (3, .d (i64 n.k))] [([1], .box [.d (i64 n.k), .d (i64 n.a), .d (i64 n.b), .d (i64 n.c), .d (i64 n.n), .d (.str n.name), .d (.str n.s), .d (.sl (some 3) (n.l.map fD)), .d (i64 n.pos)])] [1] (by simp only [go_sem]) ?_
  refine Y_codeE fun E => ?_
  simp only [go_sem]
  repeat (first
    | (apply e_gm E; (· simp only [go_sem]); (· intro h; (try simp only [Bool.and_eq_true, Bool.not_eq_true', Bool.not_eq_false'] at h); simp only [↓h, go_sem]; rfl); simp only [go_sem])
    | (apply e_gpk E; (· simp only [go_sem]); (· intro h; (try simp only [Bool.and_eq_true, Bool.not_eq_true', Bool.not_eq_false'] at h); simp only [↓h, go_sem]; rfl); (· intro h; (try simp only [Bool.and_eq_true, Bool.not_eq_true', Bool.not_eq_false'] at h); simp only [↓h, go_sem]; rfl); simp only [go_sem])
    | (apply e_gm2 E; (· simp only [go_sem]); (· rfl); (· intro h h'; (try simp only [Bool.and_eq_true, Bool.not_eq_true', Bool.not_eq_false'] at h h'); simp only [↓h, ↓h', go_sem]; rfl); simp only [go_sem])
    | (apply e_gpk2 E; (· simp only [go_sem]); (· rfl); (· intro h h'; (try simp only [Bool.and_eq_true, Bool.not_eq_true', Bool.not_eq_false'] at h h'); simp only [↓h, ↓h', go_sem]; rfl); (· intro h h'; (try simp only [Bool.and_eq_true, Bool.not_eq_true', Bool.not_eq_false'] at h h'); simp only [↓h, ↓h', go_sem]; rfl); simp only [go_sem])
    | (apply e_pk E; (· decide); simp only [go_sem]))
  rw [← h1, ← h2, ← h6, g, g3, g4, g5] at hP
  simp only [Bool.not_false, Bool.true_and] at hP
  refine e_gif E (fun k1 => ?_) (fun k1 => ?_)
  · simp only [go_sem]
    refine X_retZ (.inl rfl) hB0 ?_
    simp only [go_sem]
    refine ⟨[], ?_⟩
    simp only [go_sem]
    rw [hP, k1, Bool.true_or]
  · have k2 : n.k = 11 ∨ n.k = 14 := by
      rw [Bool.and_eq_false_iff] at k1
      simpa using k1
    rw [k1, Bool.false_or] at hP
    have c4 := c3 k2
    generalize partedB n = y at c4 hP
    simp only [go_sem]
    refine e_call E c4 rfl (by (simp only [↓k1, go_sem]) <;> rfl) (by simp) ?_
    rintro _ rfl
    simp only [go_sem]
    refine X_retZ (.inl rfl) hB0 ?_
    simp only [go_sem]
    refine ⟨[], ?_⟩
    simp only [go_sem]
    rw [hP]
theorem lab_part {k : Int} {f : EF} (hk : k = 11 ∨ k = 14) : (decide (k = 11) && (!nameB f.nm || !f.var == []) || decide (k = 14) && (!tagB f.nm || !nameB f.var)) = !partB k f := by
  unfold partB
  rw [nil_beq]
  rcases hk with rfl | rfl <;> simp
theorem all_stop {p : EF → Bool} {l : List EF} {i : Nat} (h : i < l.length) (hb : p l[i] = false) : l.all p = false := List.all_eq_false.2 ⟨_, List.getElem_mem h, by rw [hb]; decide⟩
set_option maxHeartbeats 4000000 in
theorem f167_ok {G} (n : EN) (h : SaneN BIG n) (hk : n.k = 11 ∨ n.k = 14) : HP Tryz.prog G 167 [enD n] (fun r => r = .d (.bool (partedB n))) := by
  have hpz : partsZ n.k = true := by rcases hk with e | e <;> rw [e] <;> rfl
  generalize hb : partedB n = b
  unfold partedB at hb
  rw [if_pos hpz] at hb
  have hl := h.l
  unfold enD efD
  refine funP_ok Tryz.func167 rfl (by decide +kernel) (by simp [Tryz.ntmps167]) (veil fun E => ?_)
  simp only [go_sem]
  refine loopT_e E (X := { i : Nat // i ≤ n.l.length ∧ (n.l.take i).all (partB n.k) = true }) (fun x => [(1, .at [1] 0), (3, .vw [6] 0 x.1), (4, .d (i64 x.1))])
    (fun x => [([1], .box [.d (i64 n.k), .d (i64 n.a), .d (i64 n.b), .d (i64 n.c), .d (i64 n.n), .d (.str n.name), .d (.str n.s), .d (.sl (some 3) (n.l.map fD)), .d (i64 n.pos)]), ([6], .arr none ((n.l.take x.1).map fun f => .str f.nm))]) [1, 6] (fun x => n.l.length - x.1) ⟨0, by simp⟩ id ?_ ?_
  · simp only [go_sem]
    all_goals rfl
  rintro ⟨i, hi, hall⟩ E0
  refine hideQ E0 fun Q' hQ E' => ?_
  simp only at hi hall ⊢
  simp only [go_sem]
  refine e_ifd E' (fun g1 => ?_) (fun g1 => ?_) <;> simp only [go_sem]
  · have hi' : i < n.l.length := by omega
    refine ⟨⟨by omega, by omega⟩, ?_⟩
    rw [fdz_at hi']
    simp only [go_sem]
    obtain ⟨q1, q2⟩ := h.f _ (List.getElem_mem hi')
    obtain ⟨f, hf⟩ : ∃ f, f = n.l[i] := ⟨_, rfl⟩
    have hst := part_take (p := partB n.k) hi' hall
    have hno := all_stop (p := partB n.k) hi'
    have hts : (n.l.take (i + 1)).map (fun f : EF => D.str f.nm) = (n.l.take i).map (fun f : EF => D.str f.nm) ++ [.str f.nm] := by
      rw [List.take_succ_eq_append_getElem hi', List.map_append, ← hf]; rfl
    rw [← hf] at q1 q2 hst hno ⊢
    have c1 := f165_ok (G := G) f.nm q1
    have c2 := f166_ok (G := G) f.nm q1
    have c3 := f165_ok (G := G) f.var q2
    repeat (first
      | (apply e_gm E'; (· simp only [go_sem]); (· intro h; (try simp only [Bool.and_eq_true, Bool.not_eq_true', Bool.not_eq_false'] at h); simp only [↓h, go_sem]; rfl); simp only [go_sem])
      | (apply e_gpk E'; (· simp only [go_sem]); (· intro h; (try simp only [Bool.and_eq_true, Bool.not_eq_true', Bool.not_eq_false'] at h); simp only [↓h, go_sem]; rfl); (· intro h; (try simp only [Bool.and_eq_true, Bool.not_eq_true', Bool.not_eq_false'] at h); simp only [↓h, go_sem]; rfl); simp only [go_sem])
      | (apply e_gm2 E'; (· simp only [go_sem]); (· rfl); (· intro h h'; (try simp only [Bool.and_eq_true, Bool.not_eq_true', Bool.not_eq_false'] at h h'); simp only [↓h, ↓h', go_sem]; rfl); simp only [go_sem])
      | (apply e_gpk2 E'; (· simp only [go_sem]); (· rfl); (· intro h h'; (try simp only [Bool.and_eq_true, Bool.not_eq_true', Bool.not_eq_false'] at h h'); simp only [↓h, ↓h', go_sem]; rfl); (· intro h h'; (try simp only [Bool.and_eq_true, Bool.not_eq_true', Bool.not_eq_false'] at h h'); simp only [↓h, ↓h', go_sem]; rfl); simp only [go_sem])
      | (apply e_pk E'; (· decide); simp only [go_sem]))
    (first | (apply e_gmx E'; (· simp only [go_sem]); (· intro h hk; (try simp only [Bool.and_eq_true, Bool.not_eq_true', Bool.not_eq_false'] at h); refine e_call E' (c1) rfl (by simp only [↓h, go_sem] <;> rfl) (by simp) ?_; rintro _ rfl; exact hk); simp only [go_sem]) | (apply e_gmx2 E'; (· simp only [go_sem]); (· rfl); (· intro h h' hk; (try simp only [Bool.and_eq_true, Bool.not_eq_true', Bool.not_eq_false'] at h h'); refine e_call E' (c1) rfl (by simp only [↓h, ↓h', go_sem] <;> rfl) (by simp) ?_; rintro _ rfl; exact hk); simp only [go_sem]))
    repeat (first
      | (apply e_gm E'; (· simp only [go_sem]); (· intro h; (try simp only [Bool.and_eq_true, Bool.not_eq_true', Bool.not_eq_false'] at h); simp only [↓h, go_sem]; rfl); simp only [go_sem])
      | (apply e_gpk E'; (· simp only [go_sem]); (· intro h; (try simp only [Bool.and_eq_true, Bool.not_eq_true', Bool.not_eq_false'] at h); simp only [↓h, go_sem]; rfl); (· intro h; (try simp only [Bool.and_eq_true, Bool.not_eq_true', Bool.not_eq_false'] at h); simp only [↓h, go_sem]; rfl); simp only [go_sem])
      | (apply e_gm2 E'; (· simp only [go_sem]); (· rfl); (· intro h h'; (try simp only [Bool.and_eq_true, Bool.not_eq_true', Bool.not_eq_false'] at h h'); simp only [↓h, ↓h', go_sem]; rfl); simp only [go_sem])
      | (apply e_gpk2 E'; (· simp only [go_sem]); (· rfl); (· intro h h'; (try simp only [Bool.and_eq_true, Bool.not_eq_true', Bool.not_eq_false'] at h h'); simp only [↓h, ↓h', go_sem]; rfl); (· intro h h'; (try simp only [Bool.and_eq_true, Bool.not_eq_true', Bool.not_eq_false'] at h h'); simp only [↓h, ↓h', go_sem]; rfl); simp only [go_sem])
      | (apply e_pk E'; (· decide); simp only [go_sem]))
    (first | (apply e_gmx E'; (· simp only [go_sem]); (· intro h hk; (try simp only [Bool.and_eq_true, Bool.not_eq_true', Bool.not_eq_false'] at h); refine e_call E' (c2) rfl (by simp only [↓h, go_sem] <;> rfl) (by simp) ?_; rintro _ rfl; exact hk); simp only [go_sem]) | (apply e_gmx2 E'; (· simp only [go_sem]); (· rfl); (· intro h h' hk; (try simp only [Bool.and_eq_true, Bool.not_eq_true', Bool.not_eq_false'] at h h'); refine e_call E' (c2) rfl (by simp only [↓h, ↓h', go_sem] <;> rfl) (by simp) ?_; rintro _ rfl; exact hk); simp only [go_sem]))
    repeat (first
      | (apply e_gm E'; (· simp only [go_sem]); (· intro h; (try simp only [Bool.and_eq_true, Bool.not_eq_true', Bool.not_eq_false'] at h); simp only [↓h, go_sem]; rfl); simp only [go_sem])
      | (apply e_gpk E'; (· simp only [go_sem]); (· intro h; (try simp only [Bool.and_eq_true, Bool.not_eq_true', Bool.not_eq_false'] at h); simp only [↓h, go_sem]; rfl); (· intro h; (try simp only [Bool.and_eq_true, Bool.not_eq_true', Bool.not_eq_false'] at h); simp only [↓h, go_sem]; rfl); simp only [go_sem])
      | (apply e_gm2 E'; (· simp only [go_sem]); (· rfl); (· intro h h'; (try simp only [Bool.and_eq_true, Bool.not_eq_true', Bool.not_eq_false'] at h h'); simp only [↓h, ↓h', go_sem]; rfl); simp only [go_sem])
      | (apply e_gpk2 E'; (· simp only [go_sem]); (· rfl); (· intro h h'; (try simp only [Bool.and_eq_true, Bool.not_eq_true', Bool.not_eq_false'] at h h'); simp only [↓h, ↓h', go_sem]; rfl); (· intro h h'; (try simp only [Bool.and_eq_true, Bool.not_eq_true', Bool.not_eq_false'] at h h'); simp only [↓h, ↓h', go_sem]; rfl); simp only [go_sem])
      | (apply e_pk E'; (· decide); simp only [go_sem]))
    (first | (apply e_gmx E'; (· simp only [go_sem]); (· intro h hk; (try simp only [Bool.and_eq_true, Bool.not_eq_true', Bool.not_eq_false'] at h); refine e_call E' (c3) rfl (by simp only [↓h, go_sem] <;> rfl) (by simp) ?_; rintro _ rfl; exact hk); simp only [go_sem]) | (apply e_gmx2 E'; (· simp only [go_sem]); (· rfl); (· intro h h' hk; (try simp only [Bool.and_eq_true, Bool.not_eq_true', Bool.not_eq_false'] at h h'); refine e_call E' (c3) rfl (by simp only [↓h, ↓h', go_sem] <;> rfl) (by simp) ?_; rintro _ rfl; exact hk); simp only [go_sem]))
    repeat (first
      | (apply e_gm E'; (· simp only [go_sem]); (· intro h; (try simp only [Bool.and_eq_true, Bool.not_eq_true', Bool.not_eq_false'] at h); simp only [↓h, go_sem]; rfl); simp only [go_sem])
      | (apply e_gpk E'; (· simp only [go_sem]); (· intro h; (try simp only [Bool.and_eq_true, Bool.not_eq_true', Bool.not_eq_false'] at h); simp only [↓h, go_sem]; rfl); (· intro h; (try simp only [Bool.and_eq_true, Bool.not_eq_true', Bool.not_eq_false'] at h); simp only [↓h, go_sem]; rfl); simp only [go_sem])
      | (apply e_gm2 E'; (· simp only [go_sem]); (· rfl); (· intro h h'; (try simp only [Bool.and_eq_true, Bool.not_eq_true', Bool.not_eq_false'] at h h'); simp only [↓h, ↓h', go_sem]; rfl); simp only [go_sem])
      | (apply e_gpk2 E'; (· simp only [go_sem]); (· rfl); (· intro h h'; (try simp only [Bool.and_eq_true, Bool.not_eq_true', Bool.not_eq_false'] at h h'); simp only [↓h, ↓h', go_sem]; rfl); (· intro h h'; (try simp only [Bool.and_eq_true, Bool.not_eq_true', Bool.not_eq_false'] at h h'); simp only [↓h, ↓h', go_sem]; rfl); simp only [go_sem])
      | (apply e_pk E'; (· decide); simp only [go_sem]))
    refine e_if E' (fun g2 => ?_) (fun g2 => ?_)
    · simp only [go_sem]
      rw [hQ]
      simp only [go_sem]
      rw [lab_part hk] at g2
      rw [hno (by simpa using g2), Bool.false_and] at hb
      rw [← hb]
    · simp only [go_sem]
      rw [lab_part hk] at g2
      refine ⟨by omega, ?_⟩
      rw [w64_in ⟨by omega, by omega⟩, List.take_of_length_le (l := List.map (fun f : EF => D.str f.nm) _) (by simp; omega), ← hts]
      rw [hQ]
      simp only [go_sem]
      refine ⟨⟨i + 1, by omega, hst (by simpa using g2)⟩, by show n.l.length - (i + 1) < _; omega, tau [([6], [54])], ?_⟩
      simp only [go_sem]
      all_goals rfl
  · rw [hQ]
    have h3 : i = n.l.length := by omega
    subst h3
    rw [List.take_length] at *
    rw [hall, Bool.true_and] at hb
    simp only [go_sem]
    repeat (first
      | (apply e_gm E; (· simp only [go_sem]); (· intro h; (try simp only [Bool.and_eq_true, Bool.not_eq_true', Bool.not_eq_false'] at h); simp only [↓h, go_sem]; rfl); simp only [go_sem])
      | (apply e_gpk E; (· simp only [go_sem]); (· intro h; (try simp only [Bool.and_eq_true, Bool.not_eq_true', Bool.not_eq_false'] at h); simp only [↓h, go_sem]; rfl); (· intro h; (try simp only [Bool.and_eq_true, Bool.not_eq_true', Bool.not_eq_false'] at h); simp only [↓h, go_sem]; rfl); simp only [go_sem])
      | (apply e_gm2 E; (· simp only [go_sem]); (· rfl); (· intro h h'; (try simp only [Bool.and_eq_true, Bool.not_eq_true', Bool.not_eq_false'] at h h'); simp only [↓h, ↓h', go_sem]; rfl); simp only [go_sem])
      | (apply e_gpk2 E; (· simp only [go_sem]); (· rfl); (· intro h h'; (try simp only [Bool.and_eq_true, Bool.not_eq_true', Bool.not_eq_false'] at h h'); simp only [↓h, ↓h', go_sem]; rfl); (· intro h h'; (try simp only [Bool.and_eq_true, Bool.not_eq_true', Bool.not_eq_false'] at h h'); simp only [↓h, ↓h', go_sem]; rfl); simp only [go_sem])
      | (apply e_pk E; (· decide); simp only [go_sem]))
    refine e_gif E (fun k3 => ?_) (fun k3 => ?_) <;> simp only [go_sem]
    · have ht := f232_ok (G := G) (n.l.map (·.nm)) (by rw [List.length_map]; exact hl)
      unfold strs at ht
      rw [List.map_map, show (D.str ∘ fun f : EF => f.nm) = fun f => D.str f.nm from rfl] at ht
      rw [mk_put, mk_put]
      refine e_callB E [([6], none, n.l.map fun f => .str f.nm)] ht (by rintro _ rfl; rfl) (by simp only [go_sem]) rfl (by (simp only [↓k3, go_sem]) <;> first | rfl | done) (by simp) ?_
      rintro _ rfl
      simp only [go_sem]
      repeat (first
        | (apply e_gm E; (· simp only [go_sem]); (· intro h; (try simp only [Bool.and_eq_true, Bool.not_eq_true', Bool.not_eq_false'] at h); simp only [↓h, go_sem]; rfl); simp only [go_sem])
        | (apply e_gpk E; (· simp only [go_sem]); (· intro h; (try simp only [Bool.and_eq_true, Bool.not_eq_true', Bool.not_eq_false'] at h); simp only [↓h, go_sem]; rfl); (· intro h; (try simp only [Bool.and_eq_true, Bool.not_eq_true', Bool.not_eq_false'] at h); simp only [↓h, go_sem]; rfl); simp only [go_sem])
        | (apply e_gm2 E; (· simp only [go_sem]); (· rfl); (· intro h h'; (try simp only [Bool.and_eq_true, Bool.not_eq_true', Bool.not_eq_false'] at h h'); simp only [↓h, ↓h', go_sem]; rfl); simp only [go_sem])
        | (apply e_gpk2 E; (· simp only [go_sem]); (· rfl); (· intro h h'; (try simp only [Bool.and_eq_true, Bool.not_eq_true', Bool.not_eq_false'] at h h'); simp only [↓h, ↓h', go_sem]; rfl); (· intro h h'; (try simp only [Bool.and_eq_true, Bool.not_eq_true', Bool.not_eq_false'] at h h'); simp only [↓h, ↓h', go_sem]; rfl); simp only [go_sem])
        | (apply e_pk E; (· decide); simp only [go_sem]))
      rw [← hb, show (decide ((if n.k = 14 then 1 else 0) ≤ n.l.length) && decide (n.l.length ≤ 30)) = true by
        simp only [Bool.and_eq_true, Bool.or_eq_true, decide_eq_true_eq] at k3 ⊢
        refine ⟨?_, by omega⟩
        split <;> omega, Bool.true_and]
      simp [twice]
    · rw [← hb, show (decide ((if n.k = 14 then 1 else 0) ≤ n.l.length) && decide (n.l.length ≤ 30)) = false by
        rw [Bool.eq_false_iff] at k3 ⊢
        intro hc
        apply k3
        simp only [Bool.and_eq_true, Bool.or_eq_true, decide_eq_true_eq] at hc ⊢
        refine ⟨by omega, ?_⟩
        rcases hk with e | e
        · exact .inl e
        · rw [if_pos e] at hc; exact .inr (by omega), Bool.false_and]
theorem f117_ok {G} (n : EN) (h : SaneN BIG n) : HP Tryz.prog G 117 [enD n] (fun r => r = .d (.bool (rightE n))) := by
  by_cases g : 1 ≤ n.k ∧ n.k ≤ 14 ∧ 0 ≤ n.pos ∧ n.pos ≤ 1048576
  · exact f117_in n h.nm g.2.2 ⟨g.1, g.2.1⟩ (f167_ok n h)
  · exact f117_out n g
set_option maxHeartbeats 1000000 in
theorem f73_ok {G} (n : EN) (hl : n.l.length ≤ 1000000) : HP Tryz.prog G 73 [enD n] (fun r => r = .d (.sl none ((kidsE n).map i64))) := by
  obtain ⟨k, a, b, c, m, nm, s, l, p⟩ := n
  simp only at hl
  have hk : k = 5 ∨ k = 12 ∨ k = 13 ∨ k = 6 ∨ k = 7 ∨ k = 8 ∨ k = 10 ∨ k = 9 ∨ k = 14 ∨ k = 11 ∨ ¬ (k = 5 ∨ k = 12 ∨ k = 13 ∨ k = 6 ∨ k = 7 ∨ k = 8 ∨ k = 10 ∨ k = 9 ∨ k = 14 ∨ k = 11) := by omega
  unfold enD efD
  rcases hk with rfl | rfl | rfl | rfl | rfl | rfl | rfl | rfl | rfl | rfl | hk
  iterate 3
    · refine funZ_ok Tryz.func73 rfl (by decide +kernel) (by simp [Tryz.ntmps73]) (veil fun E => ?_)
      simp only [go_sem]
      refine ⟨[([14], none, [i64 a])], ?_⟩
      simp only [go_sem]
      try rfl
  iterate 4
    · refine funZ_ok Tryz.func73 rfl (by decide +kernel) (by simp [Tryz.ntmps73]) (veil fun E => ?_)
      simp only [go_sem]
      refine ⟨[([24], none, [i64 a, i64 b])], ?_⟩
      simp only [go_sem]
      try rfl
  · refine funZ_ok Tryz.func73 rfl (by decide +kernel) (by simp [Tryz.ntmps73]) (veil fun E => ?_)
    simp only [go_sem]
    refine ⟨[([33], none, [i64 a, i64 b, i64 c])], ?_⟩
    simp only [go_sem]
    try rfl
  · refine funZ_ok Tryz.func73 rfl (by decide +kernel) (by simp [Tryz.ntmps73]) (veil fun E => ?_)
    simp only [go_sem]
    obtain ⟨A, hA, hAl⟩ : ∃ A : List Int, A = [a] ∧ A.length = 1 := ⟨_, rfl, rfl⟩
    refine loopT_e E (X := { i : Nat // i ≤ l.length }) (fun x => [(1, .at [1] 0), (3, .vw [97] 0 (1 + x.1)), (4, .d (i64 x.1))])
      (fun x => [([1], .box [.d (i64 14), .d (i64 a), .d (i64 b), .d (i64 c), .d (i64 m), .d (.str nm), .d (.str s), .d (.sl (some 3) (l.map fD)), .d (i64 p)]), ([97], .arr none ((A ++ (l.take x.1).map fun f : EF => f.to).map i64))]) [1, 97] (fun x => l.length - x.1) ⟨0, Nat.zero_le _⟩ (tau [([97], [38])]) ?_ ?_
    · simp only [go_sem]
      all_goals (rw [hA]; rfl)
    rintro ⟨i, hi⟩ E0
    refine hideQ E0 fun Q' hQ E' => ?_
    simp only at hi ⊢
    simp only [go_sem]
    refine e_ifd E' (fun g1 => ?_) (fun g1 => ?_) <;> simp only [go_sem]
    · have hi' : i < l.length := by omega
      refine ⟨⟨by omega, by omega⟩, ?_⟩
      rw [fdz_at hi']
      simp only [go_sem]
      refine ⟨by omega, ?_⟩
      rw [w64_in ⟨by omega, by omega⟩]
      rw [List.take_of_length_le (l := List.map i64 _) (by simp; omega), show List.map i64 (A ++ (l.take i).map fun f : EF => f.to) ++ [i64 l[i].to] = (A ++ (l.take (i + 1)).map fun f : EF => f.to).map i64 by
        rw [List.take_succ_eq_append_getElem hi', List.map_append (l₁ := List.take i l), ← List.append_assoc, List.map_append (l₁ := A ++ _)]; rfl]
      rw [hQ]
      simp only [go_sem]
      refine ⟨⟨i + 1, by omega⟩, by show l.length - (i + 1) < _; omega, tau [([97], [62])], ?_⟩
      simp only [go_sem]
      all_goals first | rfl | exact ⟨rfl, rfl⟩
    · rw [hQ]
      have h3 : i = l.length := by omega
      subst h3
      rw [List.take_length]
      simp only [go_sem]
      refine ⟨[([97], none, (A ++ l.map fun f : EF => f.to).map i64)], ?_⟩
      simp only [go_sem]
      rw [List.take_of_length_le (by simp; omega), hA]
      rfl
  · refine funZ_ok Tryz.func73 rfl (by decide +kernel) (by simp [Tryz.ntmps73]) (veil fun E => ?_)
    simp only [go_sem]
    obtain ⟨A, hA, hAl⟩ : ∃ A : List Int, A = [] ∧ A.length = 0 := ⟨_, rfl, rfl⟩
    refine loopT_e E (X := { i : Nat // i ≤ l.length }) (fun x => [(1, .at [1] 0), (3, .vw [97] 0 (0 + x.1)), (4, .d (i64 x.1))])
      (fun x => [([1], .box [.d (i64 11), .d (i64 a), .d (i64 b), .d (i64 c), .d (i64 m), .d (.str nm), .d (.str s), .d (.sl (some 3) (l.map fD)), .d (i64 p)]), ([97], .arr none ((A ++ (l.take x.1).map fun f : EF => f.to).map i64))]) [1, 97] (fun x => l.length - x.1) ⟨0, Nat.zero_le _⟩ (tau [([97], [5])]) ?_ ?_
    · simp only [go_sem]
      all_goals (rw [hA]; rfl)
    rintro ⟨i, hi⟩ E0
    refine hideQ E0 fun Q' hQ E' => ?_
    simp only at hi ⊢
    simp only [go_sem]
    refine e_ifd E' (fun g1 => ?_) (fun g1 => ?_) <;> simp only [go_sem]
    · have hi' : i < l.length := by omega
      refine ⟨⟨by omega, by omega⟩, ?_⟩
      rw [fdz_at hi']
      simp only [go_sem]
      refine ⟨by omega, ?_⟩
      rw [w64_in ⟨by omega, by omega⟩]
      rw [List.take_of_length_le (l := List.map i64 _) (by simp; omega), show List.map i64 (A ++ (l.take i).map fun f : EF => f.to) ++ [i64 l[i].to] = (A ++ (l.take (i + 1)).map fun f : EF => f.to).map i64 by
        rw [List.take_succ_eq_append_getElem hi', List.map_append (l₁ := List.take i l), ← List.append_assoc, List.map_append (l₁ := A ++ _)]; rfl]
      rw [hQ]
      simp only [go_sem]
      refine ⟨⟨i + 1, by omega⟩, by show l.length - (i + 1) < _; omega, tau [([97], [62])], ?_⟩
      simp only [go_sem]
      all_goals first | rfl | exact ⟨rfl, rfl⟩
    · rw [hQ]
      have h3 : i = l.length := by omega
      subst h3
      rw [List.take_length]
      simp only [go_sem]
      refine ⟨[([97], none, (A ++ l.map fun f : EF => f.to).map i64)], ?_⟩
      simp only [go_sem]
      rw [List.take_of_length_le (by simp; omega), hA]
      rfl
  · refine funZ_ok Tryz.func73 rfl (by decide +kernel) (by simp [Tryz.ntmps73]) (veil fun E => ?_)
    simp only [go_sem]
    iterate 9
      refine e_ifd E (fun h => absurd h (by omega)) (fun _ => ?_)
      simp only [go_sem]
    repeat (first
      | (apply e_gm E; (· simp only [go_sem]); (· intro h; (try simp only [Bool.and_eq_true, Bool.not_eq_true', Bool.not_eq_false'] at h); simp only [↓h, go_sem]; rfl); simp only [go_sem])
      | (apply e_gpk E; (· simp only [go_sem]); (· intro h; (try simp only [Bool.and_eq_true, Bool.not_eq_true', Bool.not_eq_false'] at h); simp only [↓h, go_sem]; rfl); (· intro h; (try simp only [Bool.and_eq_true, Bool.not_eq_true', Bool.not_eq_false'] at h); simp only [↓h, go_sem]; rfl); simp only [go_sem])
      | (apply e_gm2 E; (· simp only [go_sem]); (· rfl); (· intro h h'; (try simp only [Bool.and_eq_true, Bool.not_eq_true', Bool.not_eq_false'] at h h'); simp only [↓h, ↓h', go_sem]; rfl); simp only [go_sem])
      | (apply e_gpk2 E; (· simp only [go_sem]); (· rfl); (· intro h h'; (try simp only [Bool.and_eq_true, Bool.not_eq_true', Bool.not_eq_false'] at h h'); simp only [↓h, ↓h', go_sem]; rfl); (· intro h h'; (try simp only [Bool.and_eq_true, Bool.not_eq_true', Bool.not_eq_false'] at h h'); simp only [↓h, ↓h', go_sem]; rfl); simp only [go_sem])
      | (apply e_pk E; (· decide); simp only [go_sem]))
    refine e_if E (fun h => absurd (by simpa using h) (show ¬ (k = 11 ∨ k = 14) by omega)) (fun _ => ?_)
    simp only [go_sem]
    refine ⟨[([5], none, [])], ?_⟩
    simp only [go_sem]
    have h1 : kidN k = 0 := by
      unfold kidN
      repeat' split
      all_goals first | rfl | (exfalso; omega)
    have h2 : partsZ k = false := by
      unfold partsZ
      rw [decide_eq_false (show ¬ k = 11 by omega), decide_eq_false (show ¬ k = 14 by omega)]
      rfl
    unfold kidsE
    simp only [h1, h2]
    rfl
theorem link_no {ns : List EN} {i : Nat} {k : Int} (hk : k ∈ kidsE (ndE ns i)) (h : inB i k = false) : linkE ns i = false := by
  have : (kidsE (ndE ns i)).all (inB i) = false := List.all_eq_false.2 ⟨k, hk, by rw [h]; decide⟩
  unfold linkE
  rw [show ((kidsE (ndE ns i)).all fun k => decide (0 ≤ k) && decide (k < (i : Int))) = false from this, Bool.false_and]
theorem link_rec {ns : List EN} {i : Nat} (h : (kidsE (ndE ns i)).all (inB i) = true) : linkE ns i = (decide ((ndE ns i).k ≠ 8) || decide ((ndE ns (ndE ns i).a.toNat).k = 5)) := by
  unfold linkE
  rw [show ((kidsE (ndE ns i)).all fun k => decide (0 ≤ k) && decide (k < (i : Int))) = true from h, Bool.true_and]
set_option maxHeartbeats 4000000 in
theorem f67_ok {G} (ns : List EN) (hs : ∀ n ∈ ns, SaneN BIG n) (hN : ns.length ≤ 1000000) : HP Tryz.prog G 67 [exD ns] (fun r => r = .d (i64 (mayE ns))) := by
  generalize hb : mayE ns = b
  unfold mayE at hb
  unfold exD
  refine funP_ok Tryz.func67 rfl (by decide +kernel) (by simp [Tryz.ntmps67]) (veil fun E => ?_)
  simp only [go_sem]
  repeat (first
    | (apply e_gm E; (· simp only [go_sem]); (· intro h; (try simp only [Bool.and_eq_true, Bool.not_eq_true', Bool.not_eq_false'] at h); simp only [↓h, go_sem]; rfl); simp only [go_sem])
    | (apply e_gpk E; (· simp only [go_sem]); (· intro h; (try simp only [Bool.and_eq_true, Bool.not_eq_true', Bool.not_eq_false'] at h); simp only [↓h, go_sem]; rfl); (· intro h; (try simp only [Bool.and_eq_true, Bool.not_eq_true', Bool.not_eq_false'] at h); simp only [↓h, go_sem]; rfl); simp only [go_sem])
    | (apply e_gm2 E; (· simp only [go_sem]); (· rfl); (· intro h h'; (try simp only [Bool.and_eq_true, Bool.not_eq_true', Bool.not_eq_false'] at h h'); simp only [↓h, ↓h', go_sem]; rfl); simp only [go_sem])
    | (apply e_gpk2 E; (· simp only [go_sem]); (· rfl); (· intro h h'; (try simp only [Bool.and_eq_true, Bool.not_eq_true', Bool.not_eq_false'] at h h'); simp only [↓h, ↓h', go_sem]; rfl); (· intro h h'; (try simp only [Bool.and_eq_true, Bool.not_eq_true', Bool.not_eq_false'] at h h'); simp only [↓h, ↓h', go_sem]; rfl); simp only [go_sem])
    | (apply e_pk E; (· decide); simp only [go_sem]))
  refine e_if E (fun g => ?_) (fun g => ?_)
  · simp only [go_sem]
    simp only [Bool.or_eq_true, decide_eq_true_eq] at g
    rw [if_pos (by omega)] at hb
    rw [← hb]
  have g' : 0 < ns.length ∧ ns.length ≤ 600 := by
    simp only [Bool.or_eq_false_iff, decide_eq_false_iff_not] at g
    omega
  rw [if_neg (by omega)] at hb
  simp only [go_sem]
  refine region_xv mixed E fun X => ?_
  simp only [go_sem]
  refine x_mkS X (d := 22) (t := 95) (e := 3) (n := ns.length) (z := i64 0) (by rw [ti95]) (by rw [ti3]; rfl) (by rw [ti3]; rfl) rfl rfl (by rw [ti3]; exact ⟨by simp only; omega, by omega⟩) ⟨by simp only [go_sem], by rw [mk_used]; decide⟩ ?_
  simp only [go_sem]
  refine x_mkS X (d := 26) (t := 95) (e := 3) (n := ns.length) (z := i64 0) (by rw [ti95]) (by rw [ti3]; rfl) (by rw [ti3]; rfl) rfl rfl (by rw [ti3]; exact ⟨by simp only; omega, by omega⟩) ⟨by simp only [go_sem], by rw [mk_used]; decide⟩ ?_
  simp only [go_sem]
  refine ⟨by decide +kernel, ?_⟩
  have hs' : ∀ n ∈ ns, n.l.length ≤ 1000000 := fun n hn => (hs n hn).l
  refine loopO_e E (X := { i : Nat // i ≤ ns.length ∧ ∀ j, j < i → okI ns j = true }) (fun x => [(1, .at [1] 0), (2, .d (i64 0)), (3, .vw [22] 0 ns.length), (4, .vw [26] 0 ns.length), (5, .d (i64 x.1))])
    (fun x => [([1], .box [.d (.sl (some 9) (ns.map enD))]), ([22], .arr none ((cnts ns x.1).map i64)), ([26], .arr none ((depT ns x.1).map i64))]) [1, 22, 26] (fun x => ns.length - x.1) ⟨0, Nat.zero_le _, fun j h => absurd h (Nat.not_lt_zero _)⟩ ?_ ?_
  · rw [show cnts ns 0 = List.replicate ns.length 0 by simp [cnts, bumps], depT_zero, List.map_replicate]
    simp only [go_sem]
    all_goals first | rfl | exact ⟨rfl, rfl⟩ | exact ⟨rfl, rfl, rfl⟩
  rintro ⟨i, hi, hok⟩ E0
  refine hideQ E0 fun Q' hQ E' => ?_
  simp only at hi hok ⊢
  simp only [go_sem]
  refine e_ifd E' (fun g1 => ?_) (fun g1 => ?_) <;> simp only [go_sem]
  · have hi' : i < ns.length := by omega
    have hg := ens_get hi'
    have hsn := hs _ (by rw [ndE_eq hi']; exact List.getElem_mem hi' : ndE ns i ∈ ns)
    have hc1 := f117_ok (G := G) _ hsn
    have hc2 := f73_ok (G := G) _ hsn.l
    have hok1 : okI ns i = (rightE (ndE ns i) && linkE ns i) := rfl
    have hcs := cnts_step hi'
    have hdt := depT_step hi'
    rw [dep1_mx] at hdt
    have hlno : ∀ k ∈ kidsE (ndE ns i), inB i k = false → linkE ns i = false := fun k h1 h2 => link_no h1 h2
    have hlrec := link_rec (ns := ns) (i := i)
    have bad : okI ns i = false → okE ns = false := fun h => List.all_eq_false.2 ⟨i, List.mem_range.2 hi', by
      show ¬ okI ns i = true
      rw [h]; decide⟩
    have good : okI ns i = true → ∀ j, j < i + 1 → okI ns j = true := fun h j hj => by
      by_cases e : j = i
      · rw [e]; exact h
      · exact hok j (by omega)
    obtain ⟨n, hne⟩ : ∃ n, n = ndE ns i := ⟨_, rfl⟩
    rw [← hne] at hg hsn hc1 hc2 hok1 hcs hdt hlno hlrec
    generalize rightE n = x at hc1 hok1
    generalize linkE ns i = y at hlno hlrec hok1
    obtain ⟨K, hK⟩ : ∃ K, K = kidsE n := ⟨_, rfl⟩
    have hKl : K.length ≤ 1000003 := by rw [hK, kidsE_len]; unfold wideE; have := kidN_le n.k; have := hsn.l; split <;> omega
    rw [← hK] at hc2 hcs hdt hlno hlrec
    obtain ⟨hd1, hd2⟩ := depI_ok (ns := ns) (i := i) hi
    have hcb := cnts_bd hs' hi
    have hcl := cnts_len ns i
    rw [show depT ns i = depA ns i 0 by unfold depT; rw [if_pos hi']]
    refine ⟨⟨by omega, by omega⟩, ?_⟩
    rw [hg]
    simp only [go_sem]
    refine e_call E' hc1 rfl rfl (by simp) ?_
    rintro _ rfl
    simp only [go_sem]
    refine e_if E' (fun h1 => ?_) (fun h1 => ?_) <;> simp only [go_sem]
    · have hx : x = false := by simpa using h1
      rw [hQ]
      simp only [go_sem]
      rw [bad (by rw [hok1, hx]; rfl), Bool.false_and] at hb
      rw [← hb]
      rfl
    have hx : x = true := by simpa using h1
    refine ⟨⟨by omega, by omega⟩, ?_⟩
    rw [hg]
    simp only [go_sem]
    refine e_call E' hc2 rfl rfl (by simp) ?_
    rintro _ rfl
    simp only [go_sem]
    refine loopO_e E' (X := { q : Nat // q ≤ K.length ∧ (K.take q).all (inB i) = true }) (fun x => [(1, .at [1] 0), (2, .d (i64 0)), (3, .vw [22] 0 ns.length), (4, .vw [26] 0 ns.length), (5, .d (i64 i)), (6, .d (.sl none (K.map i64))), (7, .d (i64 x.1))])
      (fun x => [([1], .box [.d (.sl (some 9) (ns.map enD))]), ([22], .arr none ((bumps (cnts ns i) (K.take x.1)).map i64)), ([26], .arr none ((depA ns i (mx (depI ns i) (K.take x.1))).map i64))]) [1, 22, 26] (fun x => K.length - x.1) ⟨0, Nat.zero_le _, by simp⟩ ?_ ?_
    · simp only [go_sem]
      all_goals first | rfl | exact ⟨rfl, rfl⟩ | exact ⟨rfl, rfl, rfl⟩
    rintro ⟨q, hq, hall⟩ E2
    refine hideQ E2 fun Q2 hQ2 E3 => ?_
    simp only at hq hall ⊢
    have hal := depA_len hi' (mx (depI ns i) (K.take q))
    have hmb := mx_bd hd2 (K.take q)
    have hbl := bumps_len (K.take q) (cnts ns i)
    have htl : (K.take q).length ≤ 1000003 := by rw [List.length_take]; omega
    simp only [go_sem]
    refine e_ifd E3 (fun g2 => ?_) (fun g2 => ?_) <;> simp only [go_sem]
    · have hq' : q < K.length := by omega
      have hkm : K[q] ∈ K := List.getElem_mem hq'
      have hbd := (hcb.bumps (ks := K.take q)).get K[q].toNat
      refine ⟨⟨by omega, by omega⟩, ?_⟩
      rw [ints_get hq', show K.getD q 0 = K[q] by simp [hq']]
      simp only [go_sem]
      refine e_gifd E3 (fun g3 => ?_) (fun g3 => ?_)
      · simp only [go_sem]
        have g5 : inB i K[q] = false := by
          rw [Bool.eq_false_iff]
          intro hc
          simp only [inB, Bool.and_eq_true, decide_eq_true_eq] at hc
          omega
        rw [hQ2]
        simp only [go_sem]
        rw [hQ]
        simp only [go_sem]
        rw [bad (by rw [hok1, hlno _ hkm g5, Bool.and_false]), Bool.false_and] at hb
        rw [← hb]
        try rfl
      · simp only [go_sem]
        refine ⟨⟨by omega, by omega⟩, ?_⟩
        rw [ints_get hq', show K.getD q 0 = K[q] by simp [hq']]
        simp only [go_sem]
        refine e_ifd E3 (fun g4 => ?_) (fun g4 => ?_) <;> simp only [go_sem]
        · have g5 : inB i K[q] = false := by
            rw [Bool.eq_false_iff]
            intro hc
            simp only [inB, Bool.and_eq_true, decide_eq_true_eq] at hc
            omega
          rw [hQ2]
          simp only [go_sem]
          rw [hQ]
          simp only [go_sem]
          rw [bad (by rw [hok1, hlno _ hkm g5, Bool.and_false]), Bool.false_and] at hb
          rw [← hb]
          try rfl
        have g5 : inB i K[q] = true := by
          unfold inB
          rw [decide_eq_true (show 0 ≤ K[q] by omega), decide_eq_true (show K[q] < (i : Int) by omega)]
          rfl
        refine ⟨⟨by omega, by omega⟩, ?_⟩
        rw [ints_get hq', show K.getD q 0 = K[q] by simp [hq']]
        simp only [go_sem]
        refine ⟨⟨by omega, by omega⟩, ?_⟩
        rw [ints_get (by omega)]
        simp only [go_sem]
        refine ⟨⟨by omega, by omega⟩, ?_⟩
        rw [w64_in (n := (bumps (cnts ns i) (K.take q)).getD K[q].toNat 0 + 1) ⟨by omega, by omega⟩]
        rw [show (List.map i64 (bumps (cnts ns i) (K.take q))).set K[q].toNat (.int .i64 ((bumps (cnts ns i) (K.take q)).getD K[q].toNat 0 + 1)) = (bumps (cnts ns i) (K.take (q + 1))).map i64 by
          rw [List.take_succ_eq_append_getElem hq', bumps_snoc]; unfold bump; rw [List.map_set]]
        refine region_xv mixed E3 fun X => ?_
        simp only [go_sem]
        refine ⟨⟨by omega, by omega⟩, ?_⟩
        rw [ints_get (by omega), depA_get hi']
        simp only [go_sem]
        refine ⟨⟨by omega, by omega⟩, ?_⟩
        rw [ints_get hq', show K.getD q 0 = K[q] by simp [hq']]
        simp only [go_sem]
        refine ⟨⟨by omega, by omega⟩, ?_⟩
        rw [ints_get (by omega), depA_low hi _ (show K[q].toNat < i by omega)]
        simp only [go_sem]
        refine ⟨⟨by omega, by omega⟩, ?_⟩
        refine ⟨by decide +kernel, ?_⟩
        rw [w64_in (n := (q : Int) + 1) ⟨by omega, by omega⟩]
        rw [show (List.map i64 (depA ns i (mx (depI ns i) (K.take q)))).set i (.int .i64 (if (depI ns i).getD K[q].toNat 0 > mx (depI ns i) (K.take q) then (depI ns i).getD K[q].toNat 0 else mx (depI ns i) (K.take q))) = (depA ns i (mx (depI ns i) (K.take (q + 1)))).map i64 by
          rw [List.take_succ_eq_append_getElem hq', mx_snoc, if_max, ← List.map_set, depA_set hi']]
        rw [hQ2]
        simp only [go_sem]
        refine ⟨⟨q + 1, by omega, by rw [List.take_succ_eq_append_getElem hq', List.all_append, hall]; simpa using g5⟩, by show K.length - (q + 1) < _; omega, ?_⟩
        first | rfl | exact ⟨rfl, rfl⟩ | exact ⟨rfl, rfl, rfl⟩
    · rw [hQ2]
      have h3 : q = K.length := by omega
      subst h3
      rw [List.take_length] at *
      simp only [go_sem]
      refine ⟨⟨by omega, by omega⟩, ?_⟩
      rw [ints_get (by omega), depA_get hi']
      simp only [go_sem]
      refine ⟨⟨by omega, by omega⟩, ?_⟩
      rw [w64_in (n := mx (depI ns i) K + 1) ⟨by omega, by omega⟩]
      rw [show (List.map i64 (depA ns i (mx (depI ns i) K))).set i (.int .i64 (mx (depI ns i) K + 1)) = (depT ns (i + 1)).map i64 by
        rw [← hdt, ← List.map_set, depA_set hi'], ← hcs]
      have hy := hlrec hall
      refine region_xv mixed E' fun X => ?_
      simp only [go_sem]
      refine ⟨⟨by omega, by omega⟩, ?_⟩
      rw [hg]
      simp only [go_sem]
      refine x_gifd X (fun k8 => ?_) (fun k8 => ?_) <;> simp only [go_sem]
      · have hka : K = [n.a, n.b] := by rw [hK]; unfold kidsE; rw [k8]; rfl
        have ha : 0 ≤ n.a ∧ n.a < (i : Int) := by
          rw [hka] at hall
          simp only [List.all_cons, inB, Bool.and_eq_true, decide_eq_true_eq] at hall
          exact hall.1
        rw [mk_put]
        simp only [go_sem]
        refine ⟨⟨by omega, by omega⟩, ?_⟩
        rw [hg]
        simp only [go_sem]
        refine ⟨⟨by omega, by omega⟩, ?_⟩
        rw [ens_get (show n.a.toNat < ns.length by omega)]
        simp only [go_sem]
        refine ⟨by decide +kernel, ?_⟩
        rw [decide_eq_false (show ¬ n.k ≠ 8 from fun h => h k8), Bool.false_or] at hy
        refine e_ifd E' (fun g6 => ?_) (fun g6 => ?_) <;> simp only [go_sem]
        · rw [hQ]
          simp only [go_sem]
          rw [bad (by rw [hok1, hy, decide_eq_false g6, Bool.and_false]), Bool.false_and] at hb
          rw [← hb]
          try rfl
        · rw [hQ]
          simp only [go_sem]
          rw [w64_in (n := (i : Int) + 1) ⟨by omega, by omega⟩]
          refine ⟨⟨i + 1, by omega, good (by rw [hok1, hx, hy, decide_eq_true (by simpa using g6)]; rfl)⟩, by show ns.length - (i + 1) < _; omega, ?_⟩
          first | rfl | exact ⟨rfl, rfl⟩ | exact ⟨rfl, rfl, rfl⟩
      · rw [decide_eq_true (show n.k ≠ 8 from k8), Bool.true_or] at hy
        refine ⟨by decide +kernel, ?_⟩
        rw [hQ]
        simp only [go_sem]
        rw [w64_in (n := (i : Int) + 1) ⟨by omega, by omega⟩]
        refine ⟨⟨i + 1, by omega, good (by rw [hok1, hx, hy]; rfl)⟩, by show ns.length - (i + 1) < _; omega, ?_⟩
        first | rfl | exact ⟨rfl, rfl⟩ | exact ⟨rfl, rfl, rfl⟩
  · rw [hQ]
    have h3 : i = ns.length := by omega
    subst h3
    simp only [go_sem]
    have hokE : okE ns = true := List.all_eq_true.2 fun j hj => hok j (List.mem_range.1 hj)
    have hkk : ∀ i, i < ns.length → (kidsE (ndE ns i)).all (inB i) = true := fun i hi => by
      have := hok i hi
      unfold okI at this
      rw [Bool.and_eq_true] at this
      exact link_in this.2
    have hoa := once_any hkk
    have hcl := cnts_len ns ns.length
    have hdl := (depI_ok (ns := ns) (Nat.le_refl _)).1
    unfold depI at hdl
    rw [List.take_length] at hdl
    rw [hokE, Bool.true_and] at hb
    rw [show depT ns ns.length = depsE ns [] by unfold depT; rw [if_neg (Nat.lt_irrefl _)]]
    generalize cnts ns ns.length = C at hoa hcl ⊢
    refine loopO_e E (X := { j : Nat // j ≤ ns.length - 1 ∧ (C.take j).any (fun c => !decide (c = 1)) = false }) (fun x => [(1, .at [1] 0), (2, .d (i64 0)), (3, .vw [22] 0 ns.length), (4, .vw [26] 0 ns.length), (8, .d (i64 x.1))])
      (fun _ => [([1], .box [.d (.sl (some 9) (ns.map enD))]), ([22], .arr none (C.map i64)), ([26], .arr none ((depsE ns []).map i64))]) [1, 22, 26] (fun x => ns.length - x.1) ⟨0, Nat.zero_le _, by simp⟩ ?_ ?_
    · simp only [go_sem]
      all_goals first | rfl | exact ⟨rfl, rfl⟩
    rintro ⟨j, hj, hone⟩ E2
    refine hideQ E2 fun Q2 hQ2 E3 => ?_
    simp only at hj hone ⊢
    simp only [go_sem]
    rw [w64_in (n := (ns.length : Int) - 1) ⟨by omega, by omega⟩]
    refine e_ifd E3 (fun g2 => ?_) (fun g2 => ?_) <;> simp only [go_sem]
    · have hjc : j < C.length := by omega
      refine ⟨⟨by omega, by omega⟩, ?_⟩
      rw [ints_get hjc, show C.getD j 0 = C[j] by simp [hjc]]
      simp only [go_sem]
      refine e_ifd E3 (fun g3 => ?_) (fun g3 => ?_) <;> simp only [go_sem]
      · rw [hQ2]
        simp only [go_sem]
        have hm : C[j] ∈ C.take (ns.length - 1) := List.mem_iff_getElem.2 ⟨j, by rw [List.length_take]; omega, by rw [List.getElem_take]⟩
        have : (C.take (ns.length - 1)).any (fun c => !decide (c = 1)) = true := List.any_eq_true.2 ⟨_, hm, by simpa using g3⟩
        rw [this] at hoa
        rw [show onceE ns = false by simpa using hoa.symm] at hb
        rw [← hb]
        rfl
      · rw [hQ2]
        simp only [go_sem]
        rw [w64_in (n := (j : Int) + 1) ⟨by omega, by omega⟩]
        refine ⟨⟨j + 1, by omega, any_take' hjc hone (by simpa using g3)⟩, by show ns.length - (j + 1) < _; omega, ?_⟩
        first | rfl | exact ⟨rfl, rfl⟩ | exact ⟨rfl, rfl, rfl⟩
    · rw [hQ2]
      have h4 : j = ns.length - 1 := by omega
      subst h4
      rw [hone] at hoa
      rw [show onceE ns = true by simpa using hoa.symm, if_pos rfl] at hb
      unfold depthE at hb
      simp only [go_sem]
      rw [w64_in (n := (ns.length : Int) - 1) ⟨by omega, by omega⟩]
      refine ⟨⟨by omega, by omega⟩, ?_⟩
      rw [show ((ns.length : Int) - 1).toNat = ns.length - 1 by omega, ints_get (by omega)]
      simp only [go_sem]
      refine e_ifd E (fun k2 => ?_) (fun k2 => ?_) <;> simp only [go_sem]
      · rw [if_pos k2] at hb
        rw [← hb]
        try rfl
      · rw [if_neg k2] at hb
        rw [← hb]
        try rfl
def fewN (n : EN) : EN := { n with l := n.l.take 60 }
def fewE (ns : List EN) : List EN := (ns.take 700).map fewN
theorem f19_ok {G} (ns : List EN) (hl : ns.length ≤ 9223372036854775807) (hll : ∀ n ∈ ns, n.l.length ≤ 9223372036854775807) : HP Tryz.prog G 19 [exD ns] (fun r => r = .d (exD (fewE ns))) := by
  unfold exD
  refine funZ_ok Tryz.func19 rfl (by decide +kernel) (by simp [Tryz.ntmps19]) (veil fun E => ?_)
  simp only [go_sem]
  refine c_thawB E [3] 0 99 (some 9) [.d .nils] rfl rfl (by rw [mk_used]; decide) ?_
  simp only [go_sem]
  refine loopT_e E (X := { i : Nat // i ≤ ns.length ∧ i ≤ 700 }) (fun x => [(1, .at [1] 0), (2, .at [2] 0), (3, .at [3] 0), (4, .d (i64 x.1))])
    (fun x => [([1], .box [.d (.sl (some 9) (ns.map enD))]), ([2], .box [.d .nils]), ([3], .box [.vw [99] 0 x.1]), ([99], .arr (some 9) (((ns.take x.1).map fewN).map enD))]) [1, 2, 3, 99] (fun x => ns.length - x.1) ⟨0, by simp⟩ id ?_ ?_
  · simp only [go_sem]
    all_goals first | rfl | exact ⟨rfl, rfl⟩
  rintro ⟨i, hi, hi7⟩ E0
  refine hideQ E0 fun Q' hQ E' => ?_
  simp only at hi hi7 ⊢
  simp only [go_sem]
  repeat (first
    | (apply e_gm E'; (· simp only [go_sem]); (· intro h; (try simp only [Bool.and_eq_true, Bool.not_eq_true', Bool.not_eq_false'] at h); simp only [↓h, go_sem]; rfl); simp only [go_sem])
    | (apply e_gpk E'; (· simp only [go_sem]); (· intro h; (try simp only [Bool.and_eq_true, Bool.not_eq_true', Bool.not_eq_false'] at h); simp only [↓h, go_sem]; rfl); (· intro h; (try simp only [Bool.and_eq_true, Bool.not_eq_true', Bool.not_eq_false'] at h); simp only [↓h, go_sem]; rfl); simp only [go_sem])
    | (apply e_gm2 E'; (· simp only [go_sem]); (· rfl); (· intro h h'; (try simp only [Bool.and_eq_true, Bool.not_eq_true', Bool.not_eq_false'] at h h'); simp only [↓h, ↓h', go_sem]; rfl); simp only [go_sem])
    | (apply e_gpk2 E'; (· simp only [go_sem]); (· rfl); (· intro h h'; (try simp only [Bool.and_eq_true, Bool.not_eq_true', Bool.not_eq_false'] at h h'); simp only [↓h, ↓h', go_sem]; rfl); (· intro h h'; (try simp only [Bool.and_eq_true, Bool.not_eq_true', Bool.not_eq_false'] at h h'); simp only [↓h, ↓h', go_sem]; rfl); simp only [go_sem])
    | (apply e_pk E'; (· decide); simp only [go_sem]))
  refine e_if E' (fun g1 => ?_) (fun g1 => ?_) <;> simp only [go_sem]
  · have g2 : i < ns.length ∧ i < 700 := by
      simp only [Bool.and_eq_true, decide_eq_true_eq] at g1
      omega
    refine ⟨⟨by omega, by omega⟩, ?_⟩
    have hg := ens_get g2.1
    have hmn := hll _ (by rw [ndE_eq g2.1]; exact List.getElem_mem g2.1 : ndE ns i ∈ ns)
    obtain ⟨n, hne⟩ : ∃ n, n = ndE ns i := ⟨_, rfl⟩
    rw [← hne] at hg hmn
    rw [hg]
    simp only [go_sem]
    have h60 : ((0 ≤ if (60 : Int) < (n.l.length : Int) then 60 else (n.l.length : Int)) ∧ (if (60 : Int) < (n.l.length : Int) then 60 else (n.l.length : Int)) ≤ (n.l.length : Int)) := by split <;> omega
    have ht : List.take ((if (60 : Int) < (n.l.length : Int) then 60 else (n.l.length : Int)).toNat - 0) (List.map fD n.l) = (n.l.take 60).map fD := by
      rw [← List.map_take]
      split
      · rfl
      · rw [List.take_of_length_le (by omega), List.take_of_length_le (by omega)]
    refine ⟨h60, ?_⟩
    rw [ht]
    refine ⟨by rw [List.length_map, List.length_take]; omega, ?_⟩
    refine e_frzA E' [31] (some 3) ((n.l.take 60).map fD) rfl (by simp only [go_sem]; rfl) ?_
    simp only [go_sem]
    refine ⟨by omega, ?_⟩
    rw [w64_in ⟨by omega, by omega⟩]
    rw [show List.take i (List.map enD (List.map fewN (List.take i ns))) ++ [.agg [i64 n.k, i64 n.a, i64 n.b, i64 n.c, i64 n.n, .str n.name, .str n.s, .sl (some 3) ((n.l.take 60).map fD), i64 n.pos]] = ((ns.take (i + 1)).map fewN).map enD by
      rw [List.take_of_length_le (by simp; omega), List.take_succ_eq_append_getElem g2.1, List.map_append, List.map_append, ← ndE_eq g2.1, ← hne]; rfl]
    rw [hQ]
    simp only [go_sem]
    refine ⟨⟨i + 1, by omega, by omega⟩, by show ns.length - (i + 1) < _; omega, tau [([99], [37])], ?_⟩
    simp only [go_sem]
    all_goals first | rfl | exact ⟨rfl, rfl⟩
  · rw [hQ]
    simp only [go_sem]
    refine ⟨[([99], some 9, ((ns.take i).map fewN).map enD)], ?_⟩
    simp only [go_sem]
    have g2 : ¬ (i < ns.length ∧ i < 700) := by
      rw [Bool.eq_false_iff] at g1
      intro h
      apply g1
      simp only [Bool.and_eq_true, decide_eq_true_eq]
      omega
    rw [List.take_of_length_le (l := List.map enD _) (by simp; omega)]
    have : ns.take i = ns.take 700 := by
      by_cases h : i = 700
      · rw [h]
      · rw [List.take_of_length_le (by omega), List.take_of_length_le (by omega)]
    rw [this]
    rfl
theorem depI_low {ns : List EN} {k : Nat} : ∀ {i : Nat}, i ≤ ns.length → k < i → (depI ns i).getD k 0 = (depI ns (k + 1)).getD k 0
  | 0, _, h => absurd h (Nat.not_lt_zero _)
  | i + 1, hi, hk => by
    by_cases h : k = i
    · rw [h]
    · have ih := depI_low (ns := ns) (k := k) (i := i) (by omega) (by omega)
      have hl := (depI_ok (ns := ns) (i := i) (by omega)).1
      rw [depI_step (by omega), List.getD_eq_getElem?_getD, List.getElem?_append_left (by omega), ← List.getD_eq_getElem?_getD, ih]
theorem deps_at {ns : List EN} {i : Nat} (hi : i < ns.length) : (depsE ns []).getD i 0 = mx (depI ns i) (kidsE (ndE ns i)) + 1 := by
  have h1 : depsE ns [] = depI ns ns.length := by unfold depI; rw [List.take_length]
  have hl := (depI_ok (ns := ns) (i := i) (by omega)).1
  rw [h1, depI_low (Nat.le_refl _) hi, depI_step hi, List.getD_eq_getElem?_getD, List.getElem?_append_right (by omega), hl, Nat.sub_self, dep1_mx]
  rfl
theorem deps_low {ns : List EN} {i k : Nat} (hi : i ≤ ns.length) (hk : k < i) : (depsE ns []).getD k 0 = (depI ns i).getD k 0 := by
  have h1 : depsE ns [] = depI ns ns.length := by unfold depI; rw [List.take_length]
  rw [h1, depI_low (Nat.le_refl _) (by omega), depI_low hi hk]
theorem f31_ok {G} (ns : List EN) (hN : ns.length ≤ 1000000) (hs : ∀ n ∈ ns, n.l.length ≤ 1000000) (hk : ∀ i, i < ns.length → (kidsE (ndE ns i)).all (inB i) = true) :
    ∀ (m i : Nat), i < m → i < ns.length → HP Tryz.prog G 31 [exD ns, i64 i] (fun r => r = .d (i64 ((depsE ns []).getD i 0)))
  | 0, _, h, _ => absurd h (Nat.not_lt_zero _)
  | m + 1, i, him, hi => by
    have hg := ens_get hi
    have hki := hk i hi
    have hsi := hs _ (by rw [ndE_eq hi]; exact List.getElem_mem hi : ndE ns i ∈ ns)
    rw [deps_at hi]
    obtain ⟨n, hne⟩ : ∃ n, n = ndE ns i := ⟨_, rfl⟩
    rw [← hne] at hg hki hsi ⊢
    have hc := f73_ok (G := G) n hsi
    obtain ⟨K, hK⟩ : ∃ K, K = kidsE n := ⟨_, rfl⟩
    have hKl : K.length ≤ 1000003 := by rw [hK, kidsE_len]; unfold wideE; have := kidN_le n.k; split <;> omega
    rw [← hK] at hki hc ⊢
    obtain ⟨hd1, hd2⟩ := depI_ok (ns := ns) (i := i) (by omega)
    have ih : ∀ k : Nat, k < i → HP Tryz.prog G 31 [.agg [.sl (some 9) (ns.map enD)], i64 k] (fun r => r = .d (i64 ((depI ns i).getD k 0))) := fun k hk1 => by
      have := f31_ok (G := G) ns hN hs hk m k (by omega) (by omega)
      rw [deps_low (by omega) hk1] at this
      exact this
    generalize depI ns i = D at hd1 hd2 ih ⊢
    unfold exD
    refine funP_ok Tryz.func31 rfl (by decide +kernel) (by simp [Tryz.ntmps31]) (veil fun E => ?_)
    simp only [go_sem]
    refine ⟨⟨by omega, by omega⟩, ?_⟩
    rw [hg]
    simp only [go_sem]
    refine e_call E hc rfl rfl (by simp) ?_
    rintro _ rfl
    simp only [go_sem]
    refine loopO_e E (X := { q : Nat // q ≤ K.length }) (fun x => [(2, .at [2] 0), (5, .d (i64 (mx D (K.take x.1)))), (6, .d (.sl none (K.map i64))), (7, .d (i64 x.1))])
      (fun _ => [([2], .box [.d (.sl (some 9) (ns.map enD))])]) [2] (fun x => K.length - x.1) ⟨0, Nat.zero_le _⟩ ?_ ?_
    · simp only [go_sem]
      all_goals first | rfl | exact ⟨rfl, rfl⟩
    rintro ⟨q, hq⟩ E0
    refine hideQ E0 fun Q' hQ E' => ?_
    simp only at hq ⊢
    simp only [go_sem]
    refine e_ifd E' (fun g1 => ?_) (fun g1 => ?_) <;> simp only [go_sem]
    · have hq' : q < K.length := by omega
      have hkq : 0 ≤ K[q] ∧ K[q] < (i : Int) := by
        have := List.all_eq_true.1 hki K[q] (List.getElem_mem hq')
        simpa [inB] using this
      obtain ⟨k, hkk⟩ : ∃ k : Nat, K[q] = (k : Int) := ⟨K[q].toNat, by omega⟩
      have hst : mx D (K.take (q + 1)) = max (mx D (K.take q)) (D.getD k 0) := by
        rw [List.take_succ_eq_append_getElem hq', mx_snoc, hkk, Int.toNat_natCast]
      refine region_xv mixed E' fun X => ?_
      simp only [go_sem]
      refine ⟨⟨by omega, by omega⟩, ?_⟩
      rw [ints_get hq', show K.getD q 0 = K[q] by simp [hq'], hkk]
      simp only [go_sem]
      refine x_call X (ih k (by omega)) rfl rfl (by simp) ?_
      simp only [go_sem]
      refine ⟨by decide +kernel, ?_⟩
      rw [if_max, ← hst, w64_in ⟨by omega, by omega⟩]
      rw [hQ]
      simp only [go_sem]
      refine ⟨⟨q + 1, by omega⟩, by show K.length - (q + 1) < _; omega, ?_⟩
      first | rfl | exact ⟨rfl, rfl⟩
    · rw [hQ]
      have h3 : q = K.length := by omega
      subst h3
      rw [List.take_length]
      have hmb := mx_bd hd2 K
      simp only [go_sem]
      rw [w64_in ⟨by omega, by omega⟩, Int.add_comm]
theorem f116_ok {G} (ns : List EN) (hs : ∀ n ∈ ns, SaneN BIG n) (hN : ns.length ≤ 1000000) : HP Tryz.prog G 116 [exD ns] (fun r => r = .d (i64 (if mayE ns = 0 then depthE ns else 0))) := by
  have c1 := f17_ok (G := G) ns hs hN
  by_cases hm : mayE ns = 0
  · have ht := mayT hm
    have c2 := f62_ok (G := G) ns hN (fun n hn => (hs n hn).l) ht.kids
    have hp := ht.pos
    have hdl := (depI_ok (ns := ns) (Nat.le_refl _)).1
    unfold depI at hdl
    rw [List.take_length] at hdl
    rw [if_pos hm]
    rw [hm] at c1
    unfold depthE
    unfold exD at *
    refine funP_ok Tryz.func116 rfl (by decide +kernel) (by simp [Tryz.ntmps116]) (veil fun E => ?_)
    simp only [go_sem]
    refine e_call E c1 rfl rfl (by simp) ?_
    rintro _ rfl
    simp only [go_sem]
    refine region_xv mixed E fun X => ?_
    simp only [go_sem]
    refine x_call X c2 rfl rfl (by simp) ?_
    simp only [go_sem]
    rw [w64_in (n := (ns.length : Int) - 1) ⟨by omega, by omega⟩]
    refine ⟨⟨by omega, by rw [hdl]; omega⟩, ?_⟩
    rw [ints_get (by omega), show ((ns.length : Int) - 1).toNat = ns.length - 1 by omega]
    simp only [go_sem]
    first | (exact ⟨by decide +kernel, trivial⟩) | (exact ⟨by decide +kernel, rfl⟩) | decide +kernel | (refine ⟨?_, rfl⟩; decide +kernel)
  · rw [if_neg hm]
    generalize mayE ns = b at c1 hm
    unfold exD at *
    refine funP_ok Tryz.func116 rfl (by decide +kernel) (by simp [Tryz.ntmps116]) (veil fun E => ?_)
    simp only [go_sem]
    refine e_call E c1 rfl rfl (by simp) ?_
    rintro _ rfl
    simp only [go_sem]
    refine e_ifd E (fun _ => ?_) (fun h => absurd hm (by simpa using h)) <;> simp only [go_sem]
abbrev Bi := Int × Int
abbrev Reach := List (List UInt8 × Bi)
def bD (b : Bi) : D := .agg [i64 b.1, i64 b.2]
def kD (q : List UInt8 × Bi) : D := .agg [.str q.1, i64 q.2.1, i64 q.2.2]
def reachD (r : Reach) : D := .sl (some 3) (r.map kD)
def noB : Bi := (-1, -1)
def findR (r : Reach) (nm : List UInt8) : Bi := match r.reverse.find? (fun q => decide (q.1 = nm)) with
  | some q => q.2
  | none => noB
theorem findR_snoc (r : Reach) (q : List UInt8 × Bi) (nm : List UInt8) : findR (r ++ [q]) nm = if q.1 = nm then q.2 else findR r nm := by
  unfold findR
  rw [List.reverse_append, List.reverse_singleton, List.singleton_append, List.find?_cons]
  by_cases h : q.1 = nm <;> simp [h]
theorem f203_ok {G} : HP Tryz.prog G 203 [] (fun r => r = .d (.agg [i64 (-1), i64 (-1)])) := by
  refine funZ_ok Tryz.func203 rfl (by decide +kernel) (by simp [Tryz.ntmps203]) (veil fun E => ?_)
  simp only [go_sem]
  refine ⟨[], ?_⟩
  simp only [go_sem]
theorem reach_at {r : Reach} {i : Nat} (h : i < r.length) : (r.map kD).getD i .nilp = .agg [.str r[i].1, i64 r[i].2.1, i64 r[i].2.2] := by simp [h, kD]
theorem f204_ok {G} (r : Reach) (nm : List UInt8) (hl : r.length ≤ 1000000) : HP Tryz.prog G 204 [reachD r, .str nm] (fun q => q = .d (.agg [i64 (findR r nm).1, i64 (findR r nm).2])) := by
  generalize hF : findR r nm = F
  unfold reachD
  refine funZ_ok Tryz.func204 rfl (by decide +kernel) (by simp [Tryz.ntmps204]) (veil fun E => ?_)
  simp only [go_sem]
  rw [w64_in ⟨by omega, by omega⟩]
  refine loopO_e E (X := { c : Nat // c ≤ r.length ∧ findR (r.take c) nm = F }) (fun x => [(0, .d (.sl (some 3) (r.map kD))), (1, .d (.str nm)), (4, .at [4] 0), (5, .d (i64 ((x.1 : Int) - 1)))]) (fun _ => [([4], .box [.d (i64 0), .d (i64 0)])]) [4] (fun x => x.1) ⟨r.length, Nat.le_refl _, by rw [List.take_length]; exact hF⟩ ?_ ?_
  · simp only [go_sem]
    all_goals first | rfl | exact ⟨rfl, rfl⟩
  rintro ⟨c, hc, hcf⟩ E0
  refine hideQ E0 fun Q' hQ E' => ?_
  simp only at hc hcf ⊢
  simp only [go_sem]
  refine e_ifd E' (fun g1 => ?_) (fun g1 => ?_) <;> simp only [go_sem]
  · obtain ⟨c, rfl⟩ : ∃ d, c = d + 1 := ⟨c - 1, by omega⟩
    have hc' : c < r.length := by omega
    rw [List.take_succ_eq_append_getElem hc', findR_snoc] at hcf
    refine ⟨⟨by omega, by omega⟩, ?_⟩
    rw [show (((c + 1 : Nat) : Int) - 1).toNat = c by omega, reach_at hc']
    simp only [go_sem]
    refine e_if E' (fun g2 => ?_) (fun g2 => ?_) <;> simp only [go_sem]
    · refine ⟨⟨by omega, by omega⟩, ?_⟩
      rw [show (((c + 1 : Nat) : Int) - 1).toNat = c by omega, reach_at hc']
      simp only [go_sem]
      rw [hQ]
      simp only [go_sem]
      rw [if_pos (by simpa using g2)] at hcf
      refine ⟨[], ?_⟩
      simp only [go_sem]
      rw [hcf]
    · rw [if_neg (by simpa using g2)] at hcf
      rw [hQ]
      simp only [go_sem]
      refine ⟨⟨c, by omega, hcf⟩, by show c < c + 1; omega, ?_⟩
      rw [w64_in ⟨by omega, by omega⟩, show ((c + 1 : Nat) : Int) - 1 - 1 = (c : Int) - 1 by omega]
  · have hc0 : c = 0 := by omega
    subst hc0
    rw [hQ]
    simp only [go_sem]
    refine e_call E f203_ok rfl rfl (by simp) ?_
    rintro _ rfl
    simp only [go_sem]
    refine ⟨[], ?_⟩
    simp only [go_sem]
    rw [← hcf]
    rfl
theorem f258_ok {G} (r : Reach) : HP Tryz.prog G 258 [reachD r] (fun q => q = .d (.slx (some 3) (r.map kD))) := by
  unfold reachD
  refine funP_ok Tryz.func258 rfl (by decide +kernel) (by simp [Tryz.ntmps258]) (veil fun E => ?_)
  simp only [go_sem]
  refine e_slx E (t := 239) (e := 278) (wf := some 3) (xs := r.map kD) (by rw [ti239]) (by rw [ti278]; rfl) (by simp only [go_sem]) rfl (by simp only [go_sem]) (by simp only [go_sem]) ?_
  simp only [go_sem]
theorem f205_ok {G} (r : Reach) (nm : List UInt8) (a b : Int) (hl : r.length ≤ 1000000) : HP Tryz.prog G 205 [reachD r, .str nm, i64 a, i64 b] (fun q => q = .d (reachD (r ++ [(nm, a, b)]))) := by
  have c := f258_ok (G := G) r
  unfold reachD at *
  refine funZ_ok Tryz.func205 rfl (by decide +kernel) (by simp [Tryz.ntmps205]) (veil fun E => ?_)
  simp only [go_sem]
  refine e_call E c rfl rfl (by simp) ?_
  rintro _ rfl
  simp only [go_sem]
  refine e_appx E (t := 239) (e := 278) (xs := r.map kD) (ys := [.agg [.str nm, i64 a, i64 b]]) (by rw [ti239]) (by rw [ti278]; rfl) (by rw [ti278]; rfl) ⟨by simp only [go_sem], by rw [mk_used]; decide⟩ (by rw [ti278]; rfl) (by rw [ti278]; rfl) (by simp) (by rw [ti278, List.length_map]; simp [TI.by1]; omega) ?_
  simp only [go_sem]
  refine ⟨[([17], some 3, (r ++ [(nm, a, b)]).map kD)], ?_⟩
  rw [show List.map kD r ++ [.agg [.str nm, i64 a, i64 b]] = (r ++ [(nm, a, b)]).map kD by rw [List.map_append]; rfl]
  simp only [go_sem]
  rw [List.take_of_length_le (by simp)]
def walkB (ns : List EN) : Nat → Nat → Reach → List Bi → List Bi
  | 0, _, _, l => l
  | m + 1, i, r, l =>
    let n := ndE ns i
    let l0 := l.set i noB
    if n.k = 4 then l0.set i (findR r n.name)
    else if n.k = 5 then walkB ns m n.a.toNat (r ++ [(n.name, (i : Int), -1)]) l0
    else if n.k = 7 then walkB ns m n.b.toNat (r ++ [(n.name, (i : Int), -1)]) (walkB ns m n.a.toNat r l0)
    else if n.k = 8 then walkB ns m n.b.toNat (r ++ [(n.name, (i : Int), -1)]) (walkB ns m n.a.toNat (r ++ [(n.name, (i : Int), -1)]) l0)
    else if n.k = 14 then (List.range n.l.length).foldl (fun l k => walkB ns m (fdE n.l k).to.toNat (r ++ [((fdE n.l k).var, (i : Int), (k : Int))]) l) (walkB ns m n.a.toNat r l0)
    else (kidsE n).foldl (fun l k => walkB ns m k.toNat r l) l0
theorem walkB_len (ns : List EN) : ∀ (m i : Nat) (r : Reach) (l : List Bi), (walkB ns m i r l).length = l.length
  | 0, _, _, _ => rfl
  | m + 1, i, r, l => by
    have ih := walkB_len ns m
    have fold : ∀ {α : Type} (f : List Bi → α → List Bi), (∀ l a, (f l a).length = l.length) → ∀ (xs : List α) (l : List Bi), (xs.foldl f l).length = l.length := by
      intro α f hf xs
      induction xs with
      | nil => intro l; rfl
      | cons a r ih => intro l; rw [List.foldl_cons, ih, hf]
    unfold walkB
    simp only
    repeat' split
    · simp
    · rw [ih]; simp
    · rw [ih, ih]; simp
    · rw [ih, ih]; simp
    · rw [fold _ (fun l a => ih _ _ _), ih]; simp
    · rw [fold _ (fun l a => ih _ _ _)]; simp
def BO (ns : List EN) (l : List Bi) : List (Name × Ob) := [([101], .box [.d (.sl (some 9) (ns.map enD))]), ([102], .box [.vw [103] 0 ns.length]), ([103], .arr (some 2) (l.map bD)), ([104], .box [.clo 202 [.at [101] 0, .at [102] 0, .at [104] 0]])]
def BU : List Nat := [101, 102, 103, 104]
def bA (i : Nat) (r : Reach) : List AV := [.d (i64 i), .d (reachD r), .at [101] 0, .at [102] 0, .at [104] 0]
def BW (ns : List EN) (m : Nat) (G : List (Nat × Obj)) : Prop := ∀ (i : Nat) (r : Reach) (l : List Bi), i < m → i < ns.length → l.length = ns.length → r.length + i ≤ 1000000 → HCall Tryz.prog G 202 (bA i r) (BO ns l) BU (fun q hp' => q = .tup [] ∧ hp' = BO ns (walkB ns m i r l))
theorem BW.get {G} {ns : List EN} {m : Nat} (h : BW ns m G) {j : Int} {i : Nat} {r : Reach} {l : List Bi} (h1 : 0 ≤ j ∧ j < (i : Int)) (h2 : i ≤ m) (h3 : i < ns.length) (h4 : l.length = ns.length) (h5 : r.length + j.toNat ≤ 1000000) :
    ∃ l1, walkB ns m j.toNat r l = l1 ∧ l1.length = ns.length ∧ HCall Tryz.prog G 202 [.d (i64 j), .d (.sl (some 3) (r.map kD)), .at [101] 0, .at [102] 0, .at [104] 0] [([101], .box [.d (.sl (some 9) (ns.map enD))]), ([102], .box [.vw [103] 0 ns.length]), ([103], .arr (some 2) (l.map bD)), ([104], .box [.clo 202 [.at [101] 0, .at [102] 0, .at [104] 0]])] [101, 102, 103, 104]
      (fun q hp' => q = .tup [] ∧ hp' = [([101], .box [.d (.sl (some 9) (ns.map enD))]), ([102], .box [.vw [103] 0 ns.length]), ([103], .arr (some 2) (l1.map bD)), ([104], .box [.clo 202 [.at [101] 0, .at [102] 0, .at [104] 0]])]) := by
  have := h j.toNat r l (by omega) (by omega) h4 h5
  refine ⟨_, rfl, by rw [walkB_len, h4], ?_⟩
  unfold bA at this
  rw [show ((j.toNat : Nat) : Int) = j by omega] at this
  exact this
set_option maxHeartbeats 2000000 in
theorem f202_ok {G} (ns : List EN) (hN : ns.length ≤ 1000000) (hs : ∀ n ∈ ns, n.l.length ≤ 1000000) (hk : ∀ i, i < ns.length → (kidsE (ndE ns i)).all (inB i) = true) :
    ∀ (m : Nat), BW ns m G
  | 0, _, _, _, h, _, _, _ => absurd h (Nat.not_lt_zero _)
  | m + 1, i, r, l, him, hi, hl, hr => by
    have hg := ens_get hi
    have hki := hk i hi
    have hsi := hs _ (by rw [ndE_eq hi]; exact List.getElem_mem hi : ndE ns i ∈ ns)
    generalize hR : walkB ns (m + 1) i r l = R
    unfold walkB at hR
    obtain ⟨n, hne⟩ : ∃ n, n = ndE ns i := ⟨_, rfl⟩
    rw [← hne] at hg hki hsi hR
    simp only at hR
    have ih := f202_ok (G := G) ns hN hs hk m
    unfold BO bA BU reachD
    refine funO_ok Tryz.func202 rfl (by decide +kernel) (by simp [Tryz.ntmps202]) (veil fun E => ?_)
    simp only [go_sem]
    refine ⟨⟨by omega, by omega⟩, ?_⟩
    rw [hg]
    simp only [go_sem]
    refine region_xv mixed E fun X => ?_
    simp only [go_sem]
    refine x_call X f203_ok rfl rfl (by simp) ?_
    simp only [go_sem]
    refine ⟨⟨by omega, by omega⟩, ?_⟩
    refine ⟨by decide +kernel, ?_⟩
    obtain ⟨l0, h0⟩ : ∃ l0, l0 = l.set i noB := ⟨_, rfl⟩
    have h0l : l0.length = ns.length := by rw [h0, List.length_set, hl]
    rw [← h0] at hR
    rw [show (l.map bD).set i (.agg [i64 (-1), i64 (-1)]) = l0.map bD by rw [h0, List.map_set]; rfl]
    clear h0
    refine e_ifd E (fun g1 => ?_) (fun g1 => ?_) <;> simp only [go_sem]
    · rw [if_pos g1] at hR
      refine region_xv mixed E fun X => ?_
      simp only [go_sem]
      refine x_call X (f204_ok r n.name (by omega)) rfl rfl (by simp) ?_
      simp only [go_sem]
      refine ⟨⟨by omega, by omega⟩, ?_⟩
      refine ⟨by decide +kernel, ?_⟩
      rw [show (l0.map bD).set i (.agg [i64 (findR r n.name).1, i64 (findR r n.name).2]) = R.map bD by rw [← hR, List.map_set]; rfl]
      refine ⟨_, _, [101, 102, 103, 104], id, ⟨rfl, rfl⟩, ?_⟩
      simp only [go_sem]
    rw [if_neg g1] at hR
    refine e_ifd E (fun g2 => ?_) (fun g2 => ?_) <;> simp only [go_sem]
    · rw [if_pos g2] at hR
      have hka : 0 ≤ n.a ∧ n.a < i := by
        have := hki
        unfold kidsE kidN partsZ inB at this
        simp [g2] at this
        omega
      refine region_xv mixed E fun X => ?_
      simp only [go_sem]
      refine x_call X (f205_ok r n.name (i : Int) (-1) (by omega)) rfl rfl (by simp) ?_
      simp only [go_sem]
      obtain ⟨l1, h1, h1l, hc1⟩ := ih.get (r := r ++ [(n.name, (i : Int), -1)]) (l := l0) hka (by omega) hi h0l (by simp; omega)
      rw [h1] at hR
      subst hR
      unfold reachD
      refine x_callO X _ _ _ _ _ hc1 rfl rfl ⟨by simp only [go_sem], by first | (rw [mk_used]; decide) | (simp only [go_sem]; done) | (simp only [go_sem]; rw [mk_used]; decide) | (simp only [go_sem]; decide)⟩ (by simp only [go_sem]) (by simp only [go_sem]) (by simp only [go_sem]) (by simp only [go_sem]; try omega) ?_
      simp only [go_sem]
      refine ⟨by decide +kernel, ?_⟩
      refine ⟨_, _, [101, 102, 103, 104], id, ⟨rfl, rfl⟩, ?_⟩
      simp only [go_sem]
    rw [if_neg g2] at hR
    refine e_ifd E (fun g3 => ?_) (fun g3 => ?_) <;> simp only [go_sem]
    · rw [if_pos g3] at hR
      have hka : (0 ≤ n.a ∧ n.a < i) ∧ (0 ≤ n.b ∧ n.b < i) := by
        have := hki
        unfold kidsE kidN partsZ inB at this
        simp [g3] at this
        omega
      obtain ⟨l1, h1, h1l, hc1⟩ := ih.get (r := r) (l := l0) hka.1 (by omega) hi h0l (by omega)
      obtain ⟨l2, h2, h2l, hc2⟩ := ih.get (r := r ++ [(n.name, (i : Int), -1)]) (l := l1) hka.2 (by omega) hi h1l (by simp; omega)
      rw [h1, h2] at hR
      subst hR
      refine e_callO E _ _ _ hc1 rfl rfl ⟨by simp only [go_sem], by first | (rw [mk_used]; decide) | (simp only [go_sem]; done) | (simp only [go_sem]; rw [mk_used]; decide) | (simp only [go_sem]; decide)⟩ (by simp only [go_sem]) (by simp only [go_sem]) (by simp only [go_sem]) ?_
      rintro _ _ ⟨rfl, rfl⟩
      refine ⟨by simp only [go_sem]; try omega, ?_⟩
      simp only [go_sem]
      refine region_xv mixed E fun X => ?_
      simp only [go_sem]
      refine x_call X (f205_ok r n.name (i : Int) (-1) (by omega)) rfl rfl (by simp) ?_
      simp only [go_sem]
      unfold reachD
      refine x_callO X _ _ _ _ _ hc2 rfl rfl ⟨by simp only [go_sem], by first | (rw [mk_used]; decide) | (simp only [go_sem]; done) | (simp only [go_sem]; rw [mk_used]; decide) | (simp only [go_sem]; decide)⟩ (by simp only [go_sem]) (by simp only [go_sem]) (by simp only [go_sem]) (by simp only [go_sem]; try omega) ?_
      simp only [go_sem]
      refine ⟨by decide +kernel, ?_⟩
      refine ⟨_, _, [101, 102, 103, 104], id, ⟨rfl, rfl⟩, ?_⟩
      simp only [go_sem]
    rw [if_neg g3] at hR
    refine e_ifd E (fun g4 => ?_) (fun g4 => ?_) <;> simp only [go_sem]
    · rw [if_pos g4] at hR
      have hka : (0 ≤ n.a ∧ n.a < i) ∧ (0 ≤ n.b ∧ n.b < i) := by
        have := hki
        unfold kidsE kidN partsZ inB at this
        simp [g4] at this
        omega
      obtain ⟨l1, h1, h1l, hc1⟩ := ih.get (r := r ++ [(n.name, (i : Int), -1)]) (l := l0) hka.1 (by omega) hi h0l (by simp; omega)
      obtain ⟨l2, h2, h2l, hc2⟩ := ih.get (r := r ++ [(n.name, (i : Int), -1)]) (l := l1) hka.2 (by omega) hi h1l (by simp; omega)
      rw [h1, h2] at hR
      subst hR
      refine e_call E (f205_ok r n.name (i : Int) (-1) (by omega)) rfl rfl (by simp) ?_
      rintro _ rfl
      unfold reachD
      simp only [go_sem]
      refine e_callO E _ _ _ hc1 rfl rfl ⟨by simp only [go_sem], by first | (rw [mk_used]; decide) | (simp only [go_sem]; done) | (simp only [go_sem]; rw [mk_used]; decide) | (simp only [go_sem]; decide)⟩ (by simp only [go_sem]) (by simp only [go_sem]) (by simp only [go_sem]) ?_
      rintro _ _ ⟨rfl, rfl⟩
      refine ⟨by simp only [go_sem]; try omega, ?_⟩
      simp only [go_sem]
      refine e_callO E _ _ _ hc2 rfl rfl ⟨by simp only [go_sem], by first | (rw [mk_used]; decide) | (simp only [go_sem]; done) | (simp only [go_sem]; rw [mk_used]; decide) | (simp only [go_sem]; decide)⟩ (by simp only [go_sem]) (by simp only [go_sem]) (by simp only [go_sem]) ?_
      rintro _ _ ⟨rfl, rfl⟩
      refine ⟨by simp only [go_sem]; try omega, ?_⟩
      simp only [go_sem]
      refine ⟨_, _, [101, 102, 103, 104], id, ⟨rfl, rfl⟩, ?_⟩
      simp only [go_sem]
    rw [if_neg g4] at hR
    refine e_ifd E (fun g5 => ?_) (fun g5 => ?_) <;> simp only [go_sem]
    · rw [if_pos g5] at hR
      have hka : (0 ≤ n.a ∧ n.a < i) ∧ ∀ k, k < n.l.length → (0 ≤ (fdE n.l k).to ∧ (fdE n.l k).to < i) := by
        have := hki
        unfold kidsE kidN partsZ inB at this
        simp [g5] at this
        refine ⟨by omega, fun k hk => ?_⟩
        have h := this.2 n.l[k] (List.getElem_mem hk)
        unfold fdE
        simp [hk]
        omega
      obtain ⟨l1, h1, h1l, hc1⟩ := ih.get (r := r) (l := l0) hka.1 (by omega) hi h0l (by omega)
      rw [h1] at hR
      refine e_callO E _ _ _ hc1 rfl rfl ⟨by simp only [go_sem], by first | (rw [mk_used]; decide) | (simp only [go_sem]; done) | (simp only [go_sem]; rw [mk_used]; decide) | (simp only [go_sem]; decide)⟩ (by simp only [go_sem]) (by simp only [go_sem]) (by simp only [go_sem]) ?_
      rintro _ _ ⟨rfl, rfl⟩
      refine ⟨by simp only [go_sem]; try omega, ?_⟩
      simp only [go_sem]
      obtain ⟨step, hst⟩ : ∃ step, step = fun (l : List Bi) (k : Nat) => walkB ns m (fdE n.l k).to.toNat (r ++ [((fdE n.l k).var, (i : Int), (k : Int))]) l := ⟨_, rfl⟩
      rw [← hst] at hR
      refine loopO_e E (X := { q : Nat × List Bi // q.1 ≤ n.l.length ∧ q.2.length = ns.length ∧ ((List.range n.l.length).drop q.1).foldl step q.2 = R }) (fun x => [(0, .d (i64 i)), (1, .d (.sl (some 3) (r.map kD))), (2, .at [101] 0), (3, .at [102] 0), (4, .at [104] 0), (7, .at [7] 0), (97, .d (.sl (some 3) (n.l.map fD))), (98, .d (i64 n.l.length)), (99, .d (i64 x.1.1))])
        (fun x => [([101], .box [.d (.sl (some 9) (ns.map enD))]), ([102], .box [.vw [103] 0 ns.length]), ([103], .arr (some 2) (x.1.2.map bD)), ([104], .box [.clo 202 [.at [101] 0, .at [102] 0, .at [104] 0]]), ([7], .box [.d (i64 n.k), .d (i64 n.a), .d (i64 n.b), .d (i64 n.c), .d (i64 n.n), .d (.str n.name), .d (.str n.s), .d (.sl (some 3) (n.l.map fD)), .d (i64 n.pos)])]) [7, 101, 102, 103, 104] (fun x => n.l.length - x.1.1) ⟨(0, l1), Nat.zero_le _, h1l, hR⟩ ?_ ?_
      · simp only [go_sem]
        all_goals first | rfl | exact ⟨rfl, rfl⟩
      rintro ⟨⟨q, lq⟩, hq, hql, hqR⟩ E0
      refine hideQ E0 fun Q' hQ E' => ?_
      simp only at hq hql hqR ⊢
      simp only [go_sem]
      refine e_ifd E' (fun f1 => ?_) (fun f1 => ?_) <;> simp only [go_sem]
      · have hq' : q < n.l.length := by omega
        refine ⟨⟨by omega, by omega⟩, ?_⟩
        rw [fds_get hq']
        obtain ⟨fd, hfd⟩ : ∃ fd, fd = fdE n.l q := ⟨_, rfl⟩
        have hkq := hka.2 q hq'
        have hstq : step lq q = walkB ns m fd.to.toNat (r ++ [(fd.var, (i : Int), (q : Int))]) lq := by rw [hst, hfd]
        rw [← hfd] at hkq ⊢
        simp only [go_sem]
        obtain ⟨l2, h2, h2l, hc2⟩ := ih.get (r := r ++ [(fd.var, (i : Int), (q : Int))]) (l := lq) hkq (by omega) hi hql (by simp; omega)
        refine region_xv mixed E' fun X => ?_
        simp only [go_sem]
        refine x_call X (f205_ok r fd.var (i : Int) (q : Int) (by omega)) rfl rfl (by simp) ?_
        simp only [go_sem]
        unfold reachD
        refine x_callO X _ _ _ _ _ hc2 rfl rfl ⟨by simp only [go_sem], by first | (rw [mk_used]; decide) | (simp only [go_sem]; done) | (simp only [go_sem]; rw [mk_used]; decide) | (simp only [go_sem]; decide)⟩ (by simp only [go_sem]) (by simp only [go_sem]) (by simp only [go_sem]) (by simp only [go_sem]; try omega) ?_
        simp only [go_sem]
        refine ⟨by decide +kernel, ?_⟩
        rw [w64_in ⟨by omega, by omega⟩, hQ]
        simp only [go_sem]
        refine ⟨⟨(q + 1, l2), by show q + 1 ≤ _; omega, h2l, ?_⟩, by show n.l.length - (q + 1) < _; omega, ?_⟩
        · show ((List.range n.l.length).drop (q + 1)).foldl step l2 = R
          rw [← hqR, List.drop_eq_getElem_cons (i := q) (by simpa using hq'), List.foldl_cons, List.getElem_range, hstq, h2]
        simp only [go_sem]
        first | rfl | exact ⟨rfl, rfl⟩
      · rw [hQ]
        have h3 : q = n.l.length := by omega
        rw [List.drop_of_length_le (by simp; omega)] at hqR
        have h4 : lq = R := hqR
        subst h4
        simp only [go_sem]
        refine ⟨_, _, [101, 102, 103, 104], id, ⟨rfl, rfl⟩, ?_⟩
        simp only [go_sem]
    rw [if_neg g5] at hR
    have hkc := f104_new (G := G) n hsi
    obtain ⟨K, hK⟩ : ∃ K, K = kidsE n := ⟨_, rfl⟩
    have hKl : K.length ≤ 1000003 := by rw [hK, kidsE_len]; unfold wideE; have := kidN_le n.k; split <;> omega
    rw [← hK] at hkc hki hR
    refine e_callO E [.d (enD n)] [] [] hkc rfl rfl ⟨by simp only [go_sem], by rw [mk_used]; decide⟩ rfl (by simp only [go_sem]) (by simp only [go_sem]) ?_
    rintro _ _ ⟨rfl, rfl⟩
    simp only [go_sem]
    refine c_frzA E [25, 0] none (K.map i64) rfl ?_
    simp only [go_sem]
    obtain ⟨step, hst⟩ : ∃ step, step = fun (l : List Bi) (k : Int) => walkB ns m k.toNat r l := ⟨_, rfl⟩
    rw [← hst] at hR
    refine loopO_e E (X := { q : Nat × List Bi // q.1 ≤ K.length ∧ q.2.length = ns.length ∧ (K.drop q.1).foldl step q.2 = R }) (fun x => [(0, .d (i64 i)), (1, .d (.sl (some 3) (r.map kD))), (2, .at [101] 0), (3, .at [102] 0), (4, .at [104] 0), (7, .at [7] 0), (25, .d (.sl none (K.map i64))), (26, .d (i64 K.length)), (27, .d (i64 x.1.1))])
      (fun x => [([101], .box [.d (.sl (some 9) (ns.map enD))]), ([102], .box [.vw [103] 0 ns.length]), ([103], .arr (some 2) (x.1.2.map bD)), ([104], .box [.clo 202 [.at [101] 0, .at [102] 0, .at [104] 0]]), ([7], .box [.d (i64 n.k), .d (i64 n.a), .d (i64 n.b), .d (i64 n.c), .d (i64 n.n), .d (.str n.name), .d (.str n.s), .d (.sl (some 3) (n.l.map fD)), .d (i64 n.pos)])]) [7, 101, 102, 103, 104] (fun x => K.length - x.1.1) ⟨(0, l0), Nat.zero_le _, h0l, hR⟩ ?_ ?_
    · simp only [go_sem]
      all_goals first | rfl | exact ⟨rfl, rfl⟩
    rintro ⟨⟨q, lq⟩, hq, hql, hqR⟩ E0
    refine hideQ E0 fun Q' hQ E' => ?_
    simp only at hq hql hqR ⊢
    simp only [go_sem]
    refine e_ifd E' (fun f1 => ?_) (fun f1 => ?_) <;> simp only [go_sem]
    · have hq' : q < K.length := by omega
      have hkq : 0 ≤ K[q] ∧ K[q] < (i : Int) := by
        have := List.all_eq_true.1 hki K[q] (List.getElem_mem hq')
        simpa [inB] using this
      refine ⟨⟨by omega, by omega⟩, ?_⟩
      rw [ints_get hq', show K.getD q 0 = K[q] by simp [hq']]
      obtain ⟨l2, h2, h2l, hc2⟩ := ih.get (r := r) (l := lq) hkq (by omega) hi hql (by omega)
      simp only [go_sem]
      refine e_callO E' _ _ _ hc2 rfl rfl ⟨by simp only [go_sem], by first | (rw [mk_used]; decide) | (simp only [go_sem]; done) | (simp only [go_sem]; rw [mk_used]; decide) | (simp only [go_sem]; decide)⟩ (by simp only [go_sem]) (by simp only [go_sem]) (by simp only [go_sem]) ?_
      rintro _ _ ⟨rfl, rfl⟩
      refine ⟨by simp only [go_sem]; try omega, ?_⟩
      simp only [go_sem]
      rw [w64_in ⟨by omega, by omega⟩, hQ]
      simp only [go_sem]
      refine ⟨⟨(q + 1, l2), by show q + 1 ≤ _; omega, h2l, ?_⟩, by show K.length - (q + 1) < _; omega, ?_⟩
      · show (K.drop (q + 1)).foldl step l2 = R
        rw [← hqR, List.drop_eq_getElem_cons hq', List.foldl_cons, hst]
        simp only
        rw [h2]
      simp only [go_sem]
      first | rfl | exact ⟨rfl, rfl⟩
    · rw [hQ]
      have h3 : q = K.length := by omega
      rw [List.drop_of_length_le (by omega)] at hqR
      have h4 : lq = R := hqR
      subst h4
      simp only [go_sem]
      refine ⟨_, _, [101, 102, 103, 104], id, ⟨rfl, rfl⟩, ?_⟩
      simp only [go_sem]
def bindE (ns : List EN) : List Bi := walkB ns ns.length (ns.length - 1) [] (List.replicate ns.length (0, 0))
theorem bindE_len (ns : List EN) : (bindE ns).length = ns.length := by unfold bindE; rw [walkB_len, List.length_replicate]
theorem f133_ok {G} (ns : List EN) (h0 : 0 < ns.length) (hN : ns.length ≤ 1000000) (hs : ∀ n ∈ ns, n.l.length ≤ 1000000) (hk : ∀ i, i < ns.length → (kidsE (ndE ns i)).all (inB i) = true) :
    HP Tryz.prog G 133 [exD ns] (fun q => q = .d (.sl (some 2) ((bindE ns).map bD))) := by
  have hc := f202_ok (G := G) ns hN hs hk ns.length (ns.length - 1) [] (List.replicate ns.length (0, 0)) (by omega) (by omega) (by simp) (by simp; omega)
  obtain ⟨B, hB⟩ : ∃ B, B = bindE ns := ⟨_, rfl⟩
  have hbl := bindE_len ns
  rw [← hB] at hbl ⊢
  rw [show walkB ns ns.length (ns.length - 1) [] (List.replicate ns.length (0, 0)) = B from hB.symm] at hc
  unfold bA BO BU reachD at hc
  have hc2 := HCall.sub (args := [.d (i64 ((ns.length - 1 : Nat) : Int)), .d .nils, .at [101] 0, .at [102] 0, .at [104] 0]) (args' := [.d (i64 ((ns.length - 1 : Nat) : Int)), .d (.sl (some 3) []), .at [101] 0, .at [102] 0, .at [104] 0]) rfl (fun j x y hx hy => by
    match j with
    | 1 => exact .inr ⟨some 3, (Option.some.inj hx).symm, (Option.some.inj hy).symm⟩
    | 0 | 2 | 3 | 4 => exact .inl (Option.some.inj (hx.symm.trans hy))
    | j + 5 => cases hx) hc
  rw [show ((ns.length - 1 : Nat) : Int) = (ns.length : Int) - 1 by omega] at hc2
  unfold exD
  refine funZ_ok Tryz.func133 rfl (by decide +kernel) (by simp [Tryz.ntmps133]) (veil fun E => ?_)
  simp only [go_sem]
  refine ⟨⟨by omega, by omega, by omega, by omega⟩, ?_⟩
  rw [w64_in ⟨by omega, by omega⟩]
  rw [show (D.agg [D.int IntKind.i64 0, D.int IntKind.i64 0]) = bD (0, 0) from rfl, ← List.map_replicate]
  refine e_callS E (tau [([101], [1]), ([102], [3]), ([103], [8]), ([104], [4])]) _ _ _ hc2 rfl (by simp only [go_sem]; try rfl) ⟨by simp only [go_sem], by first | (rw [mk_used]; decide) | (simp only [go_sem]; done) | (simp only [go_sem]; rw [mk_used]; decide) | (simp only [go_sem]; decide)⟩ rfl (by simp only [go_sem]; try rfl) (by simp only [go_sem]) ?_
  rintro _ _ ⟨rfl, rfl⟩
  refine ⟨by simp only [go_sem]; try simp; try omega, ?_⟩
  simp only [go_sem]
  refine ⟨[([8], some 2, B.map bD)], ?_⟩
  simp only [go_sem]
  rw [List.take_of_length_le (by simp; omega)]
def isFree (ns : List EN) (B : List Bi) (i : Nat) : Bool := decide ((ndE ns i).k = 4) && decide ((B.getD i noB).1 < 0)
def freeE (ns : List EN) : List Nat := (List.range ns.length).filter (isFree ns (bindE ns))
def freeC (ns : List EN) (B : List Bi) (i : Nat) : Nat := ((List.range i).filter (isFree ns B)).length
theorem freeC_step {ns : List EN} {B : List Bi} {i : Nat} : freeC ns B (i + 1) = freeC ns B i + if isFree ns B i then 1 else 0 := by
  unfold freeC
  rw [List.range_succ, List.filter_append, List.length_append]
  by_cases h : isFree ns B i <;> simp [h]
theorem range_pre : ∀ {i n : Nat}, i ≤ n → ∃ r, List.range n = List.range i ++ r
  | i, n, h => by
    obtain ⟨d, rfl⟩ : ∃ d, n = i + d := ⟨n - i, by omega⟩
    exact ⟨_, List.range_add⟩
theorem freeC_hit {ns : List EN} {B : List Bi} {i n : Nat} (hi : i < n) (h : isFree ns B i = true) : freeC ns B i < ((List.range n).filter (isFree ns B)).length ∧ ((List.range n).filter (isFree ns B)).getD (freeC ns B i) 0 = i := by
  obtain ⟨r, hr⟩ := range_pre (i := i + 1) (n := n) (by omega)
  have : (List.range n).filter (isFree ns B) = (List.range i).filter (isFree ns B) ++ i :: r.filter (isFree ns B) := by
    rw [hr, List.range_succ, List.append_assoc, List.filter_append, List.singleton_append, List.filter_cons, if_pos h]
  unfold freeC
  rw [this]
  simp
theorem f81_ok {G} (ns : List EN) : HP Tryz.prog G 81 [exD ns] (fun r => r = .d (.clo 132 [.ptr (exD ns)])) := by
  have h : HCall Tryz.prog G 81 [.d (exD ns)] [] [] (fun r hp' => r = .clo 132 [.at [1] 0] ∧ hp' = [([1], .box [.d (.sl (some 9) (ns.map enD))])]) := by
    unfold exD
    refine funO_ok Tryz.func81 rfl (by decide +kernel) (by simp [Tryz.ntmps81]) (veil fun E => ?_)
    simp only [go_sem]
    refine ⟨_, _, [1], id, ⟨rfl, rfl⟩, ?_⟩
    simp only [go_sem]
  have h2 := HCall.fB (Q' := fun r hp' => r = .d (.clo 132 [.ptr (exD ns)]) ∧ hp' = []) h [1] (exD ns) (by
    rintro r hp' ⟨rfl, rfl⟩
    refine ⟨rfl, rfl, ?_, ?_⟩
    · simp only [go_sem]
    · simp only [go_sem])
  exact h2.mono fun r hp' ⟨h1, h3⟩ => ⟨h1, by rw [h1]; rfl, h3⟩
theorem binds_get {B : List Bi} {i : Nat} (h : i < B.length) : (B.map bD).getD i .nilp = .agg [i64 (B.getD i noB).1, i64 (B.getD i noB).2] := by simp [h, bD]
def freeA (ns : List EN) (n : Nat) : List D := [i64 ((freeE ns).getD n 0 : Nat)]
set_option maxHeartbeats 1000000 in
theorem f132_it {G} (ns : List EN) (h0 : 0 < ns.length) (hN : ns.length ≤ 1000000) (hs : ∀ n ∈ ns, n.l.length ≤ 1000000) (hk : ∀ i, i < ns.length → (kidsE (ndE ns i)).all (inB i) = true) :
    ItC Tryz.prog G 132 [.ptr (exD ns)] (freeE ns).length (freeA ns) := by
  have hb := f133_ok (G := G) ns h0 hN hs hk
  have hbl := bindE_len ns
  have hhit : ∀ i, i < ns.length → isFree ns (bindE ns) i = true → freeC ns (bindE ns) i < (freeE ns).length ∧ freeA ns (freeC ns (bindE ns) i) = [i64 i] := fun i hi h => by
    obtain ⟨h1, h2⟩ := freeC_hit hi h
    exact ⟨h1, by unfold freeA freeE; rw [h2]⟩
  have hlast : freeC ns (bindE ns) ns.length = (freeE ns).length := rfl
  obtain ⟨B, hB⟩ : ∃ B, B = bindE ns := ⟨_, rfl⟩
  rw [← hB] at hb hbl hhit hlast
  unfold exD at hb
  refine funI_ok Tryz.func132 rfl (by decide +kernel) (by simp [Tryz.ntmps132]) rfl fun z hz => ?_
  unfold exD
  refine Y_seq (Y_codeE fun E => ?_)
  simp only [go_sem]
  refine e_call E hb rfl rfl (by simp) ?_
  rintro _ rfl
  simp only [go_sem]
  rw [hbl]
  refine Y_block (Y_loop (X := { i : Nat // i ≤ ns.length }) (fun x => mk [(0, .d (.yl z.l)), (1, .d (.ptr (.agg [.sl (some 9) (ns.map enD)]))), (6, .d (.sl (some 2) (B.map bD))), (7, .d (i64 ns.length)), (8, .d (i64 x.1))] [] []) (fun x => II z (freeC ns B x.1)) (fun x => ns.length - x.1) ⟨0, Nat.zero_le _⟩ ⟨id, LeL.le ?_⟩ (fun _ _ h => h) ?_)
  · simp only [go_sem]
    all_goals rfl
  rintro ⟨i, hi⟩
  simp only at hi ⊢
  generalize hΦ : lpY _ _ _ _ _ _ _ _ = Φ'
  refine Y_seq (Y_codeE fun E => ?_)
  simp only [go_sem]
  refine Y_seq (Y_codeE fun E => ?_)
  simp only [go_sem]
  refine e_ifd E (fun h1 => ?_) (fun h1 => ?_) <;> simp only [go_sem]
  · have hi' : i < ns.length := by omega
    have hg := ens_get hi'
    have hbg := binds_get (B := B) (i := i) (by omega)
    have hstep := freeC_step (ns := ns) (B := B) (i := i)
    have hh := hhit i hi'
    unfold isFree at hstep hh
    obtain ⟨n, hne⟩ : ∃ n, n = ndE ns i := ⟨_, rfl⟩
    obtain ⟨b, hbe⟩ : ∃ b, b = B.getD i noB := ⟨_, rfl⟩
    rw [← hne] at hg hstep hh
    rw [← hbe] at hbg hstep hh
    refine Y_seq (Y_block (Y_seq (Y_codeE fun E => ?_)))
    simp only [go_sem]
    refine ⟨⟨by omega, by omega⟩, ?_⟩
    rw [hbg]
    simp only [go_sem]
    by_cases hfr : n.k = 4 ∧ b.1 < 0
    · have hft : (decide (n.k = 4) && decide (b.1 < 0)) = true := by simp [hfr]
      obtain ⟨hlt, hxs⟩ := hh hft
      rw [hft, if_pos rfl] at hstep
      refine Y_seq (Y_region (Y_op rfl ?_))
      simp only [go_sem]
      iterate 3
        refine Y_op rfl ?_
        simp only [go_sem]
      refine ⟨⟨by omega, by omega⟩, ?_⟩
      rw [hg]
      iterate 4
        refine Y_op rfl ?_
        simp only [go_sem]
      rw [decide_eq_true hfr.1]
      iterate 3
        refine Y_opG rfl rfl rfl ?_
        simp only [go_sem]
      rw [decide_eq_true hfr.2]
      iterate 2
        refine Y_op rfl ?_
        simp only [go_sem]
      iterate 2
        refine Y_opG rfl rfl rfl ?_
        simp only [go_sem]
      refine Y_yieldG hz rfl rfl hlt (by simp) rfl (by rw [hxs]; rfl) ?_ ?_
      · refine Y_rest fun E => ?_
        simp only [go_sem]
        refine Y_codeE fun E => ?_
        simp only [go_sem]
        refine Y_blk (Y_codeE fun E => ?_)
        simp only [go_sem]
        rw [w64_in ⟨by omega, by omega⟩]
        subst hΦ
        refine Y_loop_next (show { i : Nat // i ≤ ns.length } from ⟨i + 1, by omega⟩) ?_ id (LeL.le ?_) (fun _ _ h => by rw [hstep]; exact h)
        · show ns.length - (i + 1) < ns.length - i
          omega
        · simp only [go_sem]
          rfl
      · refine Y_rest fun E => ?_
        simp only [go_sem]
        refine Y_codeE fun E => ?_
        simp only [go_sem]
        subst hΦ
        exact X_loop_ret (X_endX hz (.inr rfl))
    · have hff : (decide (n.k = 4) && decide (b.1 < 0)) = false := by
        rw [Bool.eq_false_iff]
        intro h
        simp only [Bool.and_eq_true, decide_eq_true_eq] at h
        exact hfr h
      rw [hff, if_neg (by decide)] at hstep
      refine Y_seq (Y_codeE fun E => ?_)
      simp only [go_sem]
      refine ⟨⟨by omega, by omega⟩, ?_⟩
      rw [hg]
      simp only [go_sem]
      by_cases hk4 : n.k = 4
      · have hb0 : ¬ b.1 < 0 := fun h => hfr ⟨hk4, h⟩
        rw [decide_eq_true hk4]
        simp only [go_sem]
        rw [decide_eq_false hb0]
        simp only [go_sem]
        refine Y_codeE fun E => ?_
        simp only [go_sem]
        refine Y_blk (Y_codeE fun E => ?_)
        simp only [go_sem]
        rw [w64_in ⟨by omega, by omega⟩]
        subst hΦ
        refine Y_loop_next (show { i : Nat // i ≤ ns.length } from ⟨i + 1, by omega⟩) ?_ id (LeL.le ?_) (fun _ _ h => by rw [hstep]; exact h)
        · show ns.length - (i + 1) < ns.length - i
          omega
        · simp only [go_sem]
          rfl
      · rw [decide_eq_false hk4]
        simp only [go_sem]
        refine Y_codeE fun E => ?_
        simp only [go_sem]
        refine Y_blk (Y_codeE fun E => ?_)
        simp only [go_sem]
        rw [w64_in ⟨by omega, by omega⟩]
        subst hΦ
        refine Y_loop_next (show { i : Nat // i ≤ ns.length } from ⟨i + 1, by omega⟩) ?_ id (LeL.le ?_) (fun _ _ h => by rw [hstep]; exact h)
        · show ns.length - (i + 1) < ns.length - i
          omega
        · simp only [go_sem]
          rfl
  · subst hΦ
    refine X_loop_exit ?_
    simp only [go_sem]
    refine Y_nil ?_
    have : i = ns.length := by omega
    subst this
    rw [hlast]
    exact X_endI hz (.inl rfl)
def closedE (ns : List EN) : Int × Int := if mayE ns = 0 then (match freeE ns with
  | [] => (0, 0)
  | i :: _ => ((i : Int), 10)) else (0, mayE ns)
theorem may_kids {ns : List EN} (h : MayT ns) : ∀ i, i < ns.length → (kidsE (ndE ns i)).all (inB i) = true := fun i hi => by
  have := h.link i hi
  unfold linkE at this
  exact (Bool.and_eq_true_iff.1 this).1
theorem f111_ok {G} (ns : List EN) (hs : ∀ n ∈ ns, SaneN BIG n) (hN : ns.length ≤ 1000000) (hl : ∀ n ∈ ns, n.l.length ≤ 1000000) : HP Tryz.prog G 111 [exD ns] (fun r => r = .tup [.d (if mayE ns = 0 then .sl (some 2) ((bindE ns).map bD) else .nils), .d (i64 (mayE ns))]) := by
  have hm := f17_ok (G := G) ns hs hN
  by_cases h0 : mayE ns = 0
  · have ht := mayT h0
    have hb := f133_ok (G := G) ns ht.pos hN hl (may_kids ht)
    rw [if_pos h0, h0]
    rw [h0] at hm
    unfold exD at hm hb ⊢
    refine funZ_ok Tryz.func111 rfl (by decide +kernel) (by simp [Tryz.ntmps111]) (veil fun E => ?_)
    simp only [go_sem]
    refine e_call E hm rfl rfl (by simp) ?_
    rintro _ rfl
    simp only [go_sem]
    refine e_call E hb rfl rfl (by simp) ?_
    rintro _ rfl
    simp only [go_sem]
    refine ⟨[], ?_⟩
    simp only [go_sem]
  · rw [if_neg h0]
    generalize mayE ns = m at hm h0 ⊢
    unfold exD at hm ⊢
    refine funZ_ok Tryz.func111 rfl (by decide +kernel) (by simp [Tryz.ntmps111]) (veil fun E => ?_)
    simp only [go_sem]
    refine e_call E hm rfl rfl (by simp) ?_
    rintro _ rfl
    simp only [go_sem]
    refine e_ifd E (fun h1 => ?_) (fun h1 => absurd h1 (by simpa using h0)) <;> simp only [go_sem]
    refine ⟨[], ?_⟩
    simp only [go_sem]
theorem e_bad {P : Program} {cf : Cf} {Q : Exit → St → Prop} {fr : List (Nat × AV)} {k : List It} (E : Eng P cf Q) {o : Oper} : E.stp o (mk fr [([0], .map [])] []) k .no := by
  rw [e_stp_no]
  intro B hB ds β a w hds hs Q'
  obtain ⟨⟨_, _, _, h⟩, _⟩ := hs.objs [0] _ rfl
  cases h
def clSt : St := mk [(2, .at [2] 0), (3, .at [3] 0)] [([2], .box [.d (i64 0)]), ([3], .box [.d (i64 0)])] [2, 3]
set_option maxHeartbeats 1000000 in
theorem f41_ok {G} (ns : List EN) (hs : ∀ n ∈ ns, SaneN BIG n) (hN : ns.length ≤ 1000000) (hl : ∀ n ∈ ns, n.l.length ≤ 1000000) : HP Tryz.prog G 41 [exD ns] (fun r => r = .tup [.d (i64 (closedE ns).1), .d (i64 (closedE ns).2)]) := by
  have hm := f17_ok (G := G) ns hs hN
  unfold closedE
  by_cases h0 : mayE ns = 0
  · have ht := mayT h0
    have hit := f132_it (G := G) ns ht.pos hN hl (may_kids ht)
    have hfr := f81_ok (G := G) ns
    rw [if_pos h0]
    rw [h0] at hm
    refine funR_ok Tryz.func41 rfl (by decide +kernel) (by simp [Tryz.ntmps41]) fun B0 hB0 => ?_
    unfold exD at hm hfr ⊢
    refine Y_seq (Y_codeE fun E => ?_)
    simp only [go_sem]
    refine Y_seq (Y_codeE fun E => ?_)
    simp only [go_sem]
    refine e_call E hm rfl rfl (by simp) ?_
    rintro _ rfl
    simp only [go_sem]
    refine Y_seq (Y_seq (Y_codeE fun E => ?_))
    simp only [go_sem]
    refine e_call E hfr rfl rfl (by simp) ?_
    rintro _ rfl
    simp only [go_sem]
    unfold exD at hit
    refine Y_block (Y_range rfl hit rfl (X := Unit) (fun n _ => if n = 0 then clSt else badS) (by simp) (fun n hn => rfl) ⟨(), id, ?_⟩ ?_ ?_)
    · rw [if_pos rfl]
      refine LeL.le ?_
      simp only [go_sem]
      all_goals rfl
    · rintro n ⟨⟩ hn lb
      by_cases hn0 : n = 0
      · subst hn0
        simp only [if_true]
        obtain ⟨i, r, hir⟩ : ∃ i r, freeE ns = i :: r := by
          cases hc : freeE ns with
          | nil => rw [hc] at hn; cases hn
          | cons i r => exact ⟨i, r, rfl⟩
        unfold freeA clSt
        rw [hir]
        rw [show ((i :: r).getD 0 0) = i from rfl]
        refine veil fun E => ?_
        simp only [go_sem]
        refine asgE fun E => ?_
        simp only [go_sem]
        refine rq_ret ?_ (X_retZ (.inl rfl) hB0 ?_)
        · simp only [go_sem]
        · simp only [go_sem]
          refine ⟨[], ?_⟩
          simp only [go_sem]
      · simp only [if_neg hn0]
        unfold badS freeA
        refine veil fun E => ?_
        simp only [go_sem]
        refine asgE fun E => ?_
        simp only [go_sem]
        exact e_bad E
    · rintro ⟨⟩
      by_cases hn0 : (freeE ns).length = 0
      · rw [hn0, if_pos rfl]
        rw [List.length_eq_zero_iff.1 hn0]
        refine Y_blk ?_
        unfold clSt
        refine Y_codeE fun E => ?_
        simp only [go_sem]
        refine X_retZ (.inl rfl) hB0 ?_
        simp only [go_sem]
        refine ⟨[], ?_⟩
        simp only [go_sem]
      · rw [if_neg hn0]
        exact ARY_bad
  · rw [if_neg h0]
    generalize mayE ns = m at hm h0 ⊢
    unfold exD at hm ⊢
    refine funR_ok Tryz.func41 rfl (by decide +kernel) (by simp [Tryz.ntmps41]) fun B0 hB0 => ?_
    refine Y_seq (Y_codeE fun E => ?_)
    simp only [go_sem]
    refine Y_seq (Y_codeE fun E => ?_)
    simp only [go_sem]
    refine e_call E hm rfl rfl (by simp) ?_
    rintro _ rfl
    simp only [go_sem]
    refine e_ifd E (fun h1 => ?_) (fun h1 => absurd h1 (by simpa using h0)) <;> simp only [go_sem]
    refine X_retZ (.inl rfl) hB0 ?_
    simp only [go_sem]
    refine ⟨[], ?_⟩
    simp only [go_sem]
def parK (ks : List Int) (j : Nat) (p : List Int) : List Int := ks.foldl (fun p k => p.set k.toNat (j : Int)) p
def parI (ns : List EN) : Nat → List Int
  | 0 => List.replicate ns.length 0
  | j + 1 => parK (kidsE (ndE ns j)) j (parI ns j)
def parE (ns : List EN) : List Int := (parI ns ns.length).set (ns.length - 1) (-1)
theorem parK_len (ks : List Int) (j : Nat) : ∀ p : List Int, (parK ks j p).length = p.length := by
  unfold parK
  induction ks with
  | nil => intro p; rfl
  | cons k r ih => intro p; rw [List.foldl_cons, ih, List.length_set]
theorem parK_snoc (ks : List Int) (k : Int) (j : Nat) (p : List Int) : parK (ks ++ [k]) j p = (parK ks j p).set k.toNat j := by
  unfold parK; rw [List.foldl_append]; rfl
theorem parI_len (ns : List EN) : ∀ j, (parI ns j).length = ns.length
  | 0 => by simp [parI]
  | j + 1 => by rw [parI, parK_len, parI_len ns j]
theorem parE_len (ns : List EN) : (parE ns).length = ns.length := by unfold parE; rw [List.length_set, parI_len]
set_option maxHeartbeats 1000000 in
theorem f162_ok {G} (ns : List EN) (h0 : 0 < ns.length) (hn : ns.length ≤ 1000000) (hs : ∀ n ∈ ns, n.l.length ≤ 1000000) (hk : ∀ i, i < ns.length → (kidsE (ndE ns i)).all (inB i) = true) :
    HP Tryz.prog G 162 [exD ns] (fun r => r = .d (.sl none ((parE ns).map i64))) := by
  unfold exD
  refine funZ_ok Tryz.func162 rfl (by decide +kernel) (by simp [Tryz.ntmps162]) (veil fun E => ?_)
  simp only [go_sem]
  refine ⟨⟨by omega, by omega, by omega, by omega⟩, ?_⟩
  refine loopO_e E (X := { i : Nat // i ≤ ns.length }) (fun x => [(1, .at [1] 0), (3, .vw [10] 0 ns.length), (4, .d (i64 x.1))])
    (fun x => [([1], .box [.d (.sl (some 9) (ns.map enD))]), ([10], .arr none ((parI ns x.1).map i64))]) [10, 1] (fun x => ns.length - x.1) ⟨0, Nat.zero_le _⟩ ?_ ?_
  · unfold parI
    rw [List.map_replicate]
    simp only [go_sem]
    all_goals first | rfl | exact ⟨rfl, rfl⟩
  rintro ⟨i, hi⟩ E0
  refine hideQ E0 fun Q' hQ E' => ?_
  simp only at hi ⊢
  have hpl := parI_len ns i
  simp only [go_sem]
  refine e_ifd E' (fun g1 => ?_) (fun g1 => ?_) <;> simp only [go_sem]
  · have hi' : i < ns.length := by omega
    refine ⟨⟨by omega, by omega⟩, ?_⟩
    have hg := ens_get hi'
    have hki := hk i hi'
    have hsi := hs _ (by rw [ndE_eq hi']; exact List.getElem_mem hi' : ndE ns i ∈ ns)
    have hst : parI ns (i + 1) = parK (kidsE (ndE ns i)) i (parI ns i) := rfl
    obtain ⟨n, hne⟩ : ∃ n, n = ndE ns i := ⟨_, rfl⟩
    rw [← hne] at hg hki hsi hst
    rw [hg]
    have hkc := f73_ok (G := G) n hsi
    obtain ⟨K, hK⟩ : ∃ K, K = kidsE n := ⟨_, rfl⟩
    have hKl : K.length ≤ 1000003 := by rw [hK, kidsE_len]; unfold wideE; have := kidN_le n.k; split <;> omega
    rw [← hK] at hkc hki hst
    simp only [go_sem]
    refine e_call E' hkc rfl rfl (by simp) ?_
    rintro _ rfl
    simp only [go_sem]
    refine loopO_e E' (X := { q : Nat // q ≤ K.length }) (fun x => [(1, .at [1] 0), (3, .vw [10] 0 ns.length), (4, .d (i64 i)), (5, .d (.sl none (K.map i64))), (6, .d (i64 x.1))])
      (fun x => [([1], .box [.d (.sl (some 9) (ns.map enD))]), ([10], .arr none ((parK (K.take x.1) i (parI ns i)).map i64))]) [10, 1] (fun x => K.length - x.1) ⟨0, Nat.zero_le _⟩ ?_ ?_
    · rw [List.take_zero, show parK [] i (parI ns i) = parI ns i from rfl]
      simp only [go_sem]
      all_goals first | rfl | exact ⟨rfl, rfl⟩
    rintro ⟨q, hq⟩ E2
    refine hideQ E2 fun Q2 hQ2 E3 => ?_
    simp only at hq ⊢
    have hql := parK_len (K.take q) i (parI ns i)
    simp only [go_sem]
    refine e_ifd E3 (fun g2 => ?_) (fun g2 => ?_) <;> simp only [go_sem]
    · have hq' : q < K.length := by omega
      have hkq : 0 ≤ K[q] ∧ K[q] < (i : Int) := by
        have := List.all_eq_true.1 hki K[q] (List.getElem_mem hq')
        simpa [inB] using this
      refine ⟨⟨by omega, by omega⟩, ?_⟩
      rw [ints_get hq', show K.getD q 0 = K[q] by simp [hq']]
      simp only [go_sem]
      refine ⟨⟨by omega, by omega⟩, ?_⟩
      rw [w64_in ⟨by omega, by omega⟩]
      rw [show ((parK (K.take q) i (parI ns i)).map i64).set K[q].toNat (i64 i) = (parK (K.take (q + 1)) i (parI ns i)).map i64 by
        rw [List.take_succ_eq_append_getElem hq', parK_snoc, List.map_set]]
      rw [hQ2]
      simp only [go_sem]
      refine ⟨⟨q + 1, by omega⟩, by show K.length - (q + 1) < _; omega, ?_⟩
      first | rfl | exact ⟨rfl, rfl⟩
    · rw [hQ2]
      have h3 : q = K.length := by omega
      subst h3
      rw [List.take_length, ← hst]
      simp only [go_sem]
      rw [w64_in ⟨by omega, by omega⟩, hQ]
      simp only [go_sem]
      refine ⟨⟨i + 1, by omega⟩, by show ns.length - (i + 1) < _; omega, ?_⟩
      first | rfl | exact ⟨rfl, rfl⟩
  · have h3 : i = ns.length := by omega
    subst h3
    rw [hQ]
    simp only [go_sem]
    rw [w64_in ⟨by omega, by omega⟩]
    refine ⟨⟨by omega, by omega⟩, ?_⟩
    rw [show ((ns.length : Int) - 1).toNat = ns.length - 1 by omega]
    refine ⟨[([10], none, (parE ns).map i64)], ?_⟩
    simp only [go_sem]
    rw [List.take_of_length_le (by rw [List.length_map, parE_len]; exact Nat.le_refl _)]
    unfold parE
    rw [List.map_set]
    exact ⟨rfl, rfl⟩
def bindsE (n : EN) (k : Int) (nm : List UInt8) : Int :=
  if (n.k = 5 ∧ n.name = nm) ∨ (n.k = 7 ∧ n.name = nm ∧ k = n.b) ∨ (n.k = 8 ∧ n.name = nm) then -1
  else if n.k = 14 then (match (List.range n.l.length).find? (fun j => decide ((fdE n.l j).to = k) && decide ((fdE n.l j).var = nm)) with
    | some j => (j : Int)
    | none => -2) else -2
set_option maxHeartbeats 1000000 in
theorem f163_ok {G} (n : EN) (k : Int) (nm : List UInt8) (hl : n.l.length ≤ 1000000) : HP Tryz.prog G 163 [enD n, i64 k, .str nm] (fun r => r = .d (i64 (bindsE n k nm))) := by
  generalize hR : bindsE n k nm = R
  unfold bindsE at hR
  unfold enD efD
  refine funZ_ok Tryz.func163 rfl (by decide +kernel) (by simp [Tryz.ntmps163]) (veil fun E => ?_)
  simp only [go_sem]
  repeat (first
    | (apply e_gm E; (· simp only [go_sem]); (· intro h; (try simp only [Bool.and_eq_true, Bool.not_eq_true', Bool.not_eq_false'] at h); simp only [↓h, go_sem]; rfl); simp only [go_sem])
    | (apply e_gpk E; (· simp only [go_sem]); (· intro h; (try simp only [Bool.and_eq_true, Bool.not_eq_true', Bool.not_eq_false'] at h); simp only [↓h, go_sem]; rfl); (· intro h; (try simp only [Bool.and_eq_true, Bool.not_eq_true', Bool.not_eq_false'] at h); simp only [↓h, go_sem]; rfl); simp only [go_sem])
    | (apply e_gm2 E; (· simp only [go_sem]); (· rfl); (· intro h h'; (try simp only [Bool.and_eq_true, Bool.not_eq_true', Bool.not_eq_false'] at h h'); simp only [↓h, ↓h', go_sem]; rfl); simp only [go_sem])
    | (apply e_gpk2 E; (· simp only [go_sem]); (· rfl); (· intro h h'; (try simp only [Bool.and_eq_true, Bool.not_eq_true', Bool.not_eq_false'] at h h'); simp only [↓h, ↓h', go_sem]; rfl); (· intro h h'; (try simp only [Bool.and_eq_true, Bool.not_eq_true', Bool.not_eq_false'] at h h'); simp only [↓h, ↓h', go_sem]; rfl); simp only [go_sem])
    | (apply e_pk E; (· decide); simp only [go_sem]))
  have hcond : (decide (n.k = 5) && n.name == nm || decide (n.k = 7) && n.name == nm && decide (k = n.b) || decide (n.k = 8) && n.name == nm) = decide ((n.k = 5 ∧ n.name = nm) ∨ (n.k = 7 ∧ n.name = nm ∧ k = n.b) ∨ (n.k = 8 ∧ n.name = nm)) := by
    rw [Bool.eq_iff_iff]
    simp only [Bool.or_eq_true, Bool.and_eq_true, decide_eq_true_eq, beq_iff_eq]
    constructor
    · rintro ((⟨a, b⟩ | ⟨⟨a, b⟩, c⟩) | ⟨a, b⟩)
      · exact .inl ⟨a, b⟩
      · exact .inr (.inl ⟨a, b, c⟩)
      · exact .inr (.inr ⟨a, b⟩)
    · rintro (⟨a, b⟩ | ⟨a, b, c⟩ | ⟨a, b⟩)
      · exact .inl (.inl ⟨a, b⟩)
      · exact .inl (.inr ⟨⟨a, b⟩, c⟩)
      · exact .inr ⟨a, b⟩
  rw [hcond]
  refine e_ifd E (fun g1 => ?_) (fun g1 => ?_) <;> simp only [go_sem]
  · rw [if_pos g1] at hR
    rw [← hR]
    refine ⟨[], ?_⟩
    simp only [go_sem]
  rw [if_neg g1] at hR
  refine e_ifd E (fun g2 => ?_) (fun g2 => ?_) <;> simp only [go_sem]
  · rw [if_pos g2] at hR
    obtain ⟨pr, hpr⟩ : ∃ pr, pr = fun j => decide ((fdE n.l j).to = k) && decide ((fdE n.l j).var = nm) := ⟨_, rfl⟩
    rw [← hpr] at hR
    refine loopO_e E (X := { q : Nat // q ≤ n.l.length ∧ (List.range q).find? pr = none }) (fun x => [(1, .d (i64 k)), (2, .d (.str nm)), (3, .at [3] 0), (7, .d (i64 x.1))])
      (fun _ => [([3], .box [.d (i64 n.k), .d (i64 n.a), .d (i64 n.b), .d (i64 n.c), .d (i64 n.n), .d (.str n.name), .d (.str n.s), .d (.sl (some 3) (n.l.map fD)), .d (i64 n.pos)])]) [3] (fun x => n.l.length - x.1) ⟨0, Nat.zero_le _, rfl⟩ ?_ ?_
    · simp only [go_sem]
      all_goals first | rfl | exact ⟨rfl, rfl⟩
    rintro ⟨q, hq, hqn⟩ E0
    refine hideQ E0 fun Q' hQ E' => ?_
    simp only at hq hqn ⊢
    simp only [go_sem]
    refine e_ifd E' (fun f1 => ?_) (fun f1 => ?_) <;> simp only [go_sem]
    · have hq' : q < n.l.length := by omega
      refine ⟨⟨by omega, by omega⟩, ?_⟩
      rw [fds_get hq']
      simp only [go_sem]
      by_cases hto : (fdE n.l q).to = k
      · rw [decide_eq_true hto]
        simp only [go_sem]
        refine ⟨⟨by omega, by omega⟩, ?_⟩
        rw [fds_get hq']
        simp only [go_sem]
        refine e_if E' (fun f2 => ?_) (fun f2 => ?_) <;> simp only [go_sem]
        · have hpq : pr q = true := by
            rw [hpr]
            simp only [Bool.and_eq_true, decide_eq_true_eq]
            exact ⟨hto, by simpa using f2⟩
          have hfq : (List.range n.l.length).find? pr = some q := by
            obtain ⟨r, hr⟩ := range_pre (i := q + 1) (n := n.l.length) (by omega)
            rw [hr, List.range_succ, List.append_assoc, List.find?_append, hqn, List.singleton_append, List.find?_cons, hpq]
            rfl
          rw [hfq] at hR
          rw [hQ]
          simp only [go_sem]
          rw [← hR]
          refine ⟨[], ?_⟩
          simp only [go_sem]
        · have hpq : pr q = false := by
            rw [hpr]
            simp only [Bool.and_eq_false_iff, decide_eq_false_iff_not]
            exact .inr (by simpa using f2)
          rw [w64_in ⟨by omega, by omega⟩, hQ]
          simp only [go_sem]
          refine ⟨⟨q + 1, by omega, ?_⟩, by show n.l.length - (q + 1) < _; omega, ?_⟩
          · rw [List.range_succ, List.find?_append, hqn, List.find?_cons, hpq]
            rfl
          first | rfl | exact ⟨rfl, rfl⟩
      · rw [decide_eq_false hto]
        simp only [go_sem]
        have hpq : pr q = false := by
          rw [hpr]
          simp only [Bool.and_eq_false_iff, decide_eq_false_iff_not]
          exact .inl hto
        rw [w64_in ⟨by omega, by omega⟩, hQ]
        simp only [go_sem]
        refine ⟨⟨q + 1, by omega, ?_⟩, by show n.l.length - (q + 1) < _; omega, ?_⟩
        · rw [List.range_succ, List.find?_append, hqn, List.find?_cons, hpq]
          rfl
        first | rfl | exact ⟨rfl, rfl⟩
    · rw [hQ]
      have h3 : q = n.l.length := by omega
      subst h3
      rw [hqn] at hR
      simp only [go_sem]
      rw [← hR]
      refine ⟨[], ?_⟩
      simp only [go_sem]
  · rw [if_neg g2] at hR
    rw [← hR]
    refine ⟨[], ?_⟩
    simp only [go_sem]
theorem parK_get {j k : Nat} : ∀ {ks p : List Int}, k < p.length → (∀ x ∈ ks, 0 ≤ x) → (parK ks j p).getD k 0 = if (k : Int) ∈ ks then (j : Int) else p.getD k 0
  | [], p, _, _ => by simp [parK]
  | x :: r, p, hk, hx => by
    show (parK r j (p.set x.toNat j)).getD k 0 = _
    rw [parK_get (by rw [List.length_set]; exact hk) (fun y hy => hx y (List.mem_cons_of_mem _ hy))]
    have hx0 := hx x List.mem_cons_self
    by_cases h1 : (k : Int) ∈ r
    · rw [if_pos h1, if_pos (List.mem_cons_of_mem _ h1)]
    rw [if_neg h1]
    by_cases h2 : (k : Int) = x
    · rw [if_pos (by rw [h2]; exact List.mem_cons_self)]
      have : x.toNat = k := by omega
      rw [this]
      simp [hk]
    · rw [if_neg (by simp [h1, h2])]
      have : x.toNat ≠ k := by omega
      simp [List.getD_eq_getElem?_getD, List.getElem?_set_ne this]
theorem kids_nn {ns : List EN} (hk : ∀ i, i < ns.length → (kidsE (ndE ns i)).all (inB i) = true) {i : Nat} (hi : i < ns.length) : ∀ x ∈ kidsE (ndE ns i), 0 ≤ x ∧ x < (i : Int) := fun x hx => by
  have := List.all_eq_true.1 (hk i hi) x hx
  simpa [inB] using this
theorem parI_get {ns : List EN} (hk : ∀ i, i < ns.length → (kidsE (ndE ns i)).all (inB i) = true) {k : Nat} (h : k < ns.length) : ∀ i, i ≤ ns.length → (∀ j, j < i → (k : Int) ∉ kidsE (ndE ns j)) ∨ ∃ j : Nat, j < i ∧ (k : Int) ∈ kidsE (ndE ns j) ∧ (parI ns i).getD k 0 = (j : Int)
  | 0, _ => .inl fun j hj => absurd hj (Nat.not_lt_zero _)
  | i + 1, hi => by
    have hg : (parI ns (i + 1)).getD k 0 = if (k : Int) ∈ kidsE (ndE ns i) then (i : Int) else (parI ns i).getD k 0 := parK_get (by rw [parI_len]; exact h) (fun x hx => (kids_nn hk (by omega) x hx).1)
    by_cases h1 : (k : Int) ∈ kidsE (ndE ns i)
    · rw [if_pos h1] at hg
      exact .inr ⟨i, by omega, h1, hg⟩
    · rw [if_neg h1] at hg
      rcases parI_get hk h i (by omega) with h2 | ⟨j, h2, h3, h4⟩
      · refine .inl fun j hj => ?_
        rcases Nat.lt_or_ge j i with h3 | h3
        · exact h2 j h3
        · rw [show j = i by omega]; exact h1
      · exact .inr ⟨j, by omega, h3, hg.trans h4⟩
theorem parE_up {ns : List EN} (ht : MayT ns) {k : Nat} (h : k < ns.length) : (k = ns.length - 1 ∧ (parE ns).getD k 0 = -1) ∨ ∃ j : Nat, k < j ∧ j < ns.length ∧ (k : Int) ∈ kidsE (ndE ns j) ∧ (parE ns).getD k 0 = (j : Int) := by
  have hk := may_kids ht
  unfold parE
  by_cases hl : k = ns.length - 1
  · refine .inl ⟨hl, ?_⟩
    rw [← hl]
    simp [List.getD_eq_getElem?_getD, parI_len, h]
  refine .inr ?_
  have hne : ns.length - 1 ≠ k := fun e => hl e.symm
  rw [show ((parI ns ns.length).set (ns.length - 1) (-1)).getD k 0 = (parI ns ns.length).getD k 0 by
    simp [List.getD_eq_getElem?_getD, List.getElem?_set_ne hne]]
  rcases parI_get hk h ns.length (Nat.le_refl _) with h2 | ⟨j, h2, h3, h4⟩
  · exfalso
    have hc := List.all_eq_true.1 ht.once k (by simp; omega)
    have hc2 : cntE ns k = 1 := by simpa using hc
    unfold cntE at hc2
    obtain ⟨x, hx, hxk⟩ := List.countP_pos_iff.1 (by omega : 0 < List.countP (fun x => decide (x = (k : Int))) (ns.flatMap kidsE))
    obtain ⟨n, hn, hxn⟩ := List.mem_flatMap.1 hx
    obtain ⟨j, hj, hjn⟩ := List.getElem_of_mem hn
    have hxk2 : x = (k : Int) := by simpa using hxk
    refine h2 j hj ?_
    rw [ndE_eq hj, hjn, ← hxk2]
    exact hxn
  · exact ⟨j, by have := (kids_nn hk h2 _ h3).2; omega, h2, h3, h4⟩
def climb (ns : List EN) (p : List Int) (nm : List UInt8) : Nat → Int → Int → Bi
  | 0, _, _ => noB
  | m + 1, c, j => if j < 0 then noB else if bindsE (ndE ns j.toNat) c nm > -2 then (j, bindsE (ndE ns j.toNat) c nm) else climb ns p nm m j (p.getD j.toNat 0)
def refB (ns : List EN) (i : Nat) : Bi := if (ndE ns i).k = 4 then climb ns (parE ns) (ndE ns i).name ns.length i ((parE ns).getD i 0) else noB
def refBs (ns : List EN) : List Bi := (List.range ns.length).map (refB ns)
theorem refBs_len (ns : List EN) : (refBs ns).length = ns.length := by unfold refBs; simp
theorem refBs_step {ns : List EN} {i : Nat} (h : i < ns.length) : (refBs ns).take (i + 1) = (refBs ns).take i ++ [refB ns i] := by
  rw [List.take_succ_eq_append_getElem (by rw [refBs_len]; exact h)]
  simp [refBs]
theorem refBs_app {ns : List EN} {i : Nat} (h : i < ns.length) {b : Bi} (hb : b = refB ns i) : List.take i (List.map bD (List.take i (refBs ns))) ++ [.agg [i64 b.1, i64 b.2]] = ((refBs ns).take (i + 1)).map bD := by
  rw [List.take_of_length_le (by simp; omega), refBs_step h, List.map_append, hb]
  rfl
set_option maxHeartbeats 1000000 in
theorem f114_ok {G} (ns : List EN) (ht : MayT ns) (hn : ns.length ≤ 1000000) (hs : ∀ n ∈ ns, n.l.length ≤ 1000000) :
    HP Tryz.prog G 114 [exD ns] (fun r => r = .d (.sl (some 2) ((refBs ns).map bD))) := by
  have hpc := f162_ok (G := G) ns ht.pos hn hs (may_kids ht)
  have hpl := parE_len ns
  have hup := fun k h => parE_up ht (k := k) h
  have hrB : ∀ i, refB ns i = if (ndE ns i).k = 4 then climb ns (parE ns) (ndE ns i).name ns.length i ((parE ns).getD i 0) else noB := fun _ => rfl
  obtain ⟨P, hP⟩ : ∃ P, P = parE ns := ⟨_, rfl⟩
  rw [← hP] at hpc hpl
  simp only [← hP] at hup hrB
  unfold exD at hpc ⊢
  refine funZ_ok Tryz.func114 rfl (by decide +kernel) (by simp [Tryz.ntmps114]) (veil fun E => ?_)
  simp only [go_sem]
  refine e_call E hpc rfl rfl (by simp) ?_
  rintro _ rfl
  simp only [go_sem]
  have hpget : ∀ k, k < ns.length → (P.map i64).getD k .nilp = i64 (P.getD k 0) := fun k hk => ints_get (by omega)
  refine loopT_e E (X := { i : Nat // i ≤ ns.length }) (fun x => [(1, .at [1] 0), (3, .d (.sl none (P.map i64))), (4, .vw [12] 0 x.1), (5, .d (i64 x.1))])
    (fun x => [([1], .box [.d (.sl (some 9) (ns.map enD))]), ([12], .arr (some 2) (((refBs ns).take x.1).map bD))]) [12, 1] (fun x => ns.length - x.1) ⟨0, Nat.zero_le _⟩ id ?_ ?_
  · simp only [go_sem]
    all_goals first | rfl | exact ⟨rfl, rfl⟩
  rintro ⟨i, hi⟩ E0
  refine hideQ E0 fun Q' hQ E' => ?_
  simp only at hi ⊢
  simp only [go_sem]
  refine e_ifd E' (fun g1 => ?_) (fun g1 => ?_) <;> simp only [go_sem]
  · have hi' : i < ns.length := by omega
    refine ⟨⟨by omega, by omega⟩, ?_⟩
    have hg := ens_get hi'
    have hRi := hrB i
    have hst := refBs_step hi'
    have hui := hup i hi'
    obtain ⟨R, hR⟩ : ∃ R, R = refB ns i := ⟨_, rfl⟩
    rw [← hR] at hRi hst
    obtain ⟨n, hne⟩ : ∃ n, n = ndE ns i := ⟨_, rfl⟩
    rw [← hne] at hg hRi
    rw [hg]
    simp only [go_sem]
    refine e_ifd E' (fun g2 => ?_) (fun g2 => ?_) <;> simp only [go_sem]
    · rw [if_pos g2] at hRi
      refine ⟨⟨by omega, by omega⟩, ?_⟩
      rw [hpget i hi']
      simp only [go_sem]
      refine loopO_e E' (X := { x : Int × Int × Bi // (x.2.2 = R ∧ 0 ≤ R.1) ∨ (x.2.2 = noB ∧ ((x.2.1 = -1 ∧ R = noB) ∨ ∃ jn m : Nat, x.2.1 = (jn : Int) ∧ jn < ns.length ∧ ns.length ≤ jn + m ∧ climb ns P n.name m x.1 (jn : Int) = R)) })
        (fun x => [(1, .at [1] 0), (3, .d (.sl none (P.map i64))), (4, .vw [12] 0 i), (5, .d (i64 i)), (6, .at [6] 0), (7, .d (i64 x.1.1)), (8, .d (i64 x.1.2.1))])
        (fun x => [([1], .box [.d (.sl (some 9) (ns.map enD))]), ([12], .arr (some 2) (((refBs ns).take i).map bD)), ([6], .box [.d (i64 x.1.2.2.1), .d (i64 x.1.2.2.2)])]) [6, 12, 1] (fun x => if x.1.2.2.1 < 0 ∧ 0 ≤ x.1.2.1 then ns.length - x.1.2.1.toNat else 0) ⟨((i : Int), P.getD i 0, noB), .inr ⟨rfl, ?_⟩⟩ ?_ ?_
      · rcases hui with ⟨_, h2⟩ | ⟨j, h1, h2, _, h4⟩
        · refine .inl ⟨h2, ?_⟩
          rw [hRi, h2]
          cases hln : ns.length with
          | zero => omega
          | succ m => unfold climb; rw [if_pos (by decide)]
        · exact .inr ⟨j, ns.length, h4, h2, by omega, by rw [hRi, h4]⟩
      · simp only [go_sem]
        all_goals first | rfl | exact ⟨rfl, rfl⟩
      rintro ⟨⟨c, j, b⟩, hx⟩ E2
      refine hideQ E2 fun Q2 hQ2 E3 => ?_
      simp only at hx ⊢
      simp only [go_sem]
      by_cases hj : 0 ≤ j
      · rw [decide_eq_true hj]
        simp only [go_sem]
        refine e_ifd E3 (fun f1 => ?_) (fun f1 => ?_) <;> simp only [go_sem]
        · have hx2 : b = noB ∧ ∃ jn m : Nat, j = (jn : Int) ∧ jn < ns.length ∧ ns.length ≤ jn + m ∧ climb ns P n.name m c (jn : Int) = R := by
            rcases hx with ⟨h1, h2⟩ | ⟨h1, ⟨h2, _⟩ | h2⟩
            · rw [h1] at f1; omega
            · omega
            · exact ⟨h1, h2⟩
          obtain ⟨hb, jn, m, rfl, hjn, hfu, hcl⟩ := hx2
          subst hb
          obtain ⟨m, rfl⟩ : ∃ m', m = m' + 1 := ⟨m - 1, by omega⟩
          unfold climb at hcl
          rw [if_neg (by omega)] at hcl
          simp only [Int.toNat_natCast] at hcl
          have hgj := ens_get hjn
          have hsj := hs _ (by rw [ndE_eq hjn]; exact List.getElem_mem hjn : ndE ns jn ∈ ns)
          have huj := hup jn hjn
          have hcb := f163_ok (G := G) (ndE ns jn) c n.name hsj
          obtain ⟨nj, hnj⟩ : ∃ nj, nj = ndE ns jn := ⟨_, rfl⟩
          rw [← hnj] at hgj hsj hcb hcl
          obtain ⟨a, ha⟩ : ∃ a, a = bindsE nj c n.name := ⟨_, rfl⟩
          rw [← ha] at hcb hcl
          refine region_xv mixed E3 fun X => ?_
          simp only [go_sem]
          refine ⟨⟨by omega, by omega⟩, ?_⟩
          rw [hgj]
          simp only [go_sem]
          refine ⟨⟨by omega, by omega⟩, ?_⟩
          rw [hg]
          simp only [go_sem]
          refine x_call X hcb rfl rfl (by simp) ?_
          simp only [go_sem]
          refine ⟨by decide +kernel, ?_⟩
          refine e_ifd E3 (fun f2 => ?_) (fun f2 => ?_) <;> simp only [go_sem]
          · rw [if_pos (by omega)] at hcl
            refine ⟨⟨by omega, by omega⟩, ?_⟩
            rw [hpget jn hjn]
            simp only [go_sem]
            rw [hQ2]
            simp only [go_sem]
            refine ⟨⟨((jn : Int), P.getD jn 0, R), .inl ⟨rfl, by rw [← hcl]; exact Int.natCast_nonneg _⟩⟩, ?_, ?_⟩
            · show (if R.1 < 0 ∧ 0 ≤ P.getD jn 0 then ns.length - (P.getD jn 0).toNat else 0) < (if noB.1 < 0 ∧ (0 : Int) ≤ (jn : Int) then ns.length - jn else 0)
              rw [if_neg (by rw [← hcl]; simp; omega), if_pos ⟨by decide, by omega⟩]
              omega
            · have e1 : R.1 = (jn : Int) := by rw [← hcl]
              have e2 : R.2 = a := by rw [← hcl]
              refine ⟨⟨rfl, rfl⟩, ?_⟩
              show some (Ob.boxT none [AV.d (i64 (jn : Int)), AV.d (i64 a)]) = some (Ob.boxT none [AV.d (i64 R.1), AV.d (i64 R.2)])
              rw [e1, e2]
          · rw [if_neg (by omega)] at hcl
            refine ⟨⟨by omega, by omega⟩, ?_⟩
            rw [hpget jn hjn]
            simp only [go_sem]
            rw [hQ2]
            simp only [go_sem]
            refine ⟨⟨((jn : Int), P.getD jn 0, noB), .inr ⟨rfl, ?_⟩⟩, ?_, ?_⟩
            · rcases huj with ⟨_, h2⟩ | ⟨j', h1, h2, _, h4⟩
              · refine .inl ⟨h2, ?_⟩
                rw [← hcl, h2]
                cases m with
                | zero => rfl
                | succ m => unfold climb; rw [if_pos (by decide)]
              · exact .inr ⟨j', m, h4, h2, by omega, by rw [← hcl, h4]⟩
            · show (if noB.1 < 0 ∧ 0 ≤ P.getD jn 0 then ns.length - (P.getD jn 0).toNat else 0) < (if noB.1 < 0 ∧ (0 : Int) ≤ (jn : Int) then ns.length - jn else 0)
              rw [if_pos (c := noB.1 < 0 ∧ (0 : Int) ≤ (jn : Int)) ⟨by decide, by omega⟩]
              rcases huj with ⟨_, h2⟩ | ⟨j', h1, h2, _, h4⟩
              · rw [h2, if_neg (by omega)]
                omega
              · rw [h4, if_pos ⟨by decide, by omega⟩]
                omega
            · first | rfl | exact ⟨rfl, rfl⟩ | exact ⟨⟨rfl, rfl⟩, rfl⟩
        · rw [hQ2]
          simp only [go_sem]
          have hb : b = R := by
            rcases hx with ⟨h1, h2⟩ | ⟨h1, _⟩
            · exact h1
            · rw [h1] at f1; exact absurd (by decide : noB.1 < 0) f1
          subst hb
          refine ⟨by omega, ?_⟩
          rw [w64_in ⟨by omega, by omega⟩]
          have key : List.take i (List.map bD (List.take i (refBs ns))) ++ [.agg [i64 b.1, i64 b.2]] = ((refBs ns).take (i + 1)).map bD := refBs_app hi' (b := b) hR
          rw [key, hQ]
          simp only [go_sem]
          refine ⟨⟨i + 1, by omega⟩, by show ns.length - (i + 1) < _; omega, tau [([12], [66])], ?_⟩
          simp only [go_sem]
          all_goals first | rfl | exact ⟨rfl, rfl⟩
      · rw [decide_eq_false hj]
        simp only [go_sem]
        rw [hQ2]
        simp only [go_sem]
        have hb : b = R := by
          rcases hx with ⟨h1, h2⟩ | ⟨h1, ⟨_, h2⟩ | ⟨jn, _, h2, _⟩⟩
          · exact h1
          · rw [h1, h2]
          · omega
        subst hb
        refine ⟨by omega, ?_⟩
        rw [w64_in ⟨by omega, by omega⟩]
        have key : List.take i (List.map bD (List.take i (refBs ns))) ++ [.agg [i64 b.1, i64 b.2]] = ((refBs ns).take (i + 1)).map bD := refBs_app hi' (b := b) hR
        rw [key, hQ]
        simp only [go_sem]
        refine ⟨⟨i + 1, by omega⟩, by show ns.length - (i + 1) < _; omega, tau [([12], [66])], ?_⟩
        simp only [go_sem]
        all_goals first | rfl | exact ⟨rfl, rfl⟩
    · rw [if_neg g2] at hRi
      refine ⟨by omega, ?_⟩
      rw [w64_in ⟨by omega, by omega⟩]
      have key : List.take i (List.map bD (List.take i (refBs ns))) ++ [.agg [.int .i64 (-1), .int .i64 (-1)]] = ((refBs ns).take (i + 1)).map bD := refBs_app hi' (b := noB) (hRi.symm.trans hR)
      rw [key, hQ]
      simp only [go_sem]
      refine ⟨⟨i + 1, by omega⟩, by show ns.length - (i + 1) < _; omega, tau [([12], [66])], ?_⟩
      simp only [go_sem]
      all_goals first | rfl | exact ⟨rfl, rfl⟩
  · have h3 : i = ns.length := by omega
    subst h3
    rw [hQ]
    simp only [go_sem]
    refine ⟨[([12], some 2, (refBs ns).map bD)], ?_⟩
    simp only [go_sem]
    rw [List.take_of_length_le (l := refBs ns) (by rw [refBs_len]; exact Nat.le_refl _), List.take_of_length_le (by rw [List.length_map, refBs_len]; exact Nat.le_refl _)]
    exact ⟨rfl, rfl⟩
def refClosed (ns : List EN) : Int := match (List.range ns.length).find? (fun i => decide ((ndE ns i).k = 4) && decide ((refB ns i).1 < 0)) with
  | some i => (i : Int)
  | none => -1
set_option maxHeartbeats 1000000 in
theorem f113_ok {G} (ns : List EN) (ht : MayT ns) (hn : ns.length ≤ 1000000) (hs : ∀ n ∈ ns, n.l.length ≤ 1000000) :
    HP Tryz.prog G 113 [exD ns] (fun r => r = .d (i64 (refClosed ns))) := by
  have hbc := f114_ok (G := G) ns ht hn hs
  have hbl := refBs_len ns
  have hbg : ∀ i, i < ns.length → (refBs ns).getD i noB = refB ns i := fun i h => by simp [refBs, h]
  generalize hR : refClosed ns = R
  unfold refClosed at hR
  obtain ⟨pr, hpr⟩ : ∃ pr, pr = fun i => decide ((ndE ns i).k = 4) && decide ((refB ns i).1 < 0) := ⟨_, rfl⟩
  rw [← hpr] at hR
  obtain ⟨B, hB⟩ : ∃ B, B = refBs ns := ⟨_, rfl⟩
  rw [← hB] at hbc hbl hbg
  unfold exD at hbc ⊢
  refine funZ_ok Tryz.func113 rfl (by decide +kernel) (by simp [Tryz.ntmps113]) (veil fun E => ?_)
  simp only [go_sem]
  refine e_call E hbc rfl rfl (by simp) ?_
  rintro _ rfl
  simp only [go_sem]
  refine loopO_e E (X := { q : Nat // q ≤ ns.length ∧ (List.range q).find? pr = none }) (fun x => [(1, .at [1] 0), (3, .d (.sl (some 2) (B.map bD))), (4, .d (i64 x.1))])
    (fun _ => [([1], .box [.d (.sl (some 9) (ns.map enD))])]) [1] (fun x => ns.length - x.1) ⟨0, Nat.zero_le _, rfl⟩ ?_ ?_
  · simp only [go_sem]
    all_goals first | rfl | exact ⟨rfl, rfl⟩
  rintro ⟨q, hq, hqn⟩ E0
  refine hideQ E0 fun Q' hQ E' => ?_
  simp only at hq hqn ⊢
  simp only [go_sem]
  refine e_ifd E' (fun f1 => ?_) (fun f1 => ?_) <;> simp only [go_sem]
  · have hq' : q < ns.length := by omega
    have hg := ens_get hq'
    have hbq := binds_get (B := B) (i := q) (by omega)
    rw [hbg q hq'] at hbq
    have hpq : pr q = (decide ((ndE ns q).k = 4) && decide ((refB ns q).1 < 0)) := by rw [hpr]
    obtain ⟨n, hne⟩ : ∃ n, n = ndE ns q := ⟨_, rfl⟩
    obtain ⟨b, hbe⟩ : ∃ b, b = refB ns q := ⟨_, rfl⟩
    rw [← hne] at hg hpq
    rw [← hbe] at hbq hpq
    refine ⟨⟨by omega, by omega⟩, ?_⟩
    rw [hg]
    simp only [go_sem]
    by_cases hk4 : n.k = 4
    · rw [decide_eq_true hk4]
      simp only [go_sem]
      refine ⟨⟨by omega, by omega⟩, ?_⟩
      rw [hbq]
      simp only [go_sem]
      refine e_ifd E' (fun f2 => ?_) (fun f2 => ?_) <;> simp only [go_sem]
      · rw [decide_eq_true hk4, decide_eq_true f2] at hpq
        have hfq : (List.range ns.length).find? pr = some q := by
          obtain ⟨r, hr⟩ := range_pre (i := q + 1) (n := ns.length) (by omega)
          rw [hr, List.range_succ, List.append_assoc, List.find?_append, hqn, List.singleton_append, List.find?_cons, hpq]
          rfl
        rw [hfq] at hR
        rw [hQ]
        simp only [go_sem]
        rw [← hR]
        refine ⟨[], ?_⟩
        simp only [go_sem]
      · rw [decide_eq_false f2, Bool.and_false] at hpq
        rw [w64_in ⟨by omega, by omega⟩, hQ]
        simp only [go_sem]
        refine ⟨⟨q + 1, by omega, ?_⟩, by show ns.length - (q + 1) < _; omega, ?_⟩
        · rw [List.range_succ, List.find?_append, hqn, List.find?_cons, hpq]
          rfl
        first | rfl | exact ⟨rfl, rfl⟩
    · rw [decide_eq_false hk4, Bool.false_and] at hpq
      rw [decide_eq_false hk4]
      simp only [go_sem]
      rw [w64_in ⟨by omega, by omega⟩, hQ]
      simp only [go_sem]
      refine ⟨⟨q + 1, by omega, ?_⟩, by show ns.length - (q + 1) < _; omega, ?_⟩
      · rw [List.range_succ, List.find?_append, hqn, List.find?_cons, hpq]
        rfl
      first | rfl | exact ⟨rfl, rfl⟩
  · rw [hQ]
    have h3 : q = ns.length := by omega
    subst h3
    rw [hqn] at hR
    simp only [go_sem]
    rw [← hR]
    refine ⟨[], ?_⟩
    simp only [go_sem]
theorem count_split {α : Type} {l : List α} {f : α → List Int} {p : Int → Bool} {j : Nat} (hj : j < l.length) : (l.flatMap f).countP p = ((l.take j).flatMap f).countP p + ((f l[j]).countP p + ((l.drop (j + 1)).flatMap f).countP p) := by
  have : l.flatMap f = (l.take j).flatMap f ++ (f l[j] ++ (l.drop (j + 1)).flatMap f) := by
    rw [← List.flatMap_cons, ← List.drop_eq_getElem_cons hj, ← List.flatMap_append, List.take_append_drop]
  rw [this, List.countP_append, List.countP_append]
theorem cnt_one {ns : List EN} (ht : MayT ns) {k : Nat} (h : k < ns.length - 1) : cntE ns k = 1 := by
  have hc := List.all_eq_true.1 ht.once k (by simp; omega)
  simpa using hc
theorem kid_once {ns : List EN} (ht : MayT ns) {i k : Nat} (hi : i < ns.length) (h : k < ns.length - 1) : (kidsE (ndE ns i)).countP (fun x => decide (x = (k : Int))) ≤ 1 := by
  have h1 := cnt_one ht h
  unfold cntE at h1
  rw [count_split hi, ← ndE_eq hi] at h1
  omega
theorem kid_one {ns : List EN} (ht : MayT ns) {i j k : Nat} (hi : i < j) (hj : j < ns.length) (h1 : (k : Int) ∈ kidsE (ndE ns i)) (h2 : (k : Int) ∈ kidsE (ndE ns j)) : False := by
  have hk := (kids_nn (may_kids ht) (show i < ns.length by omega) _ h1).2
  have h3 := cnt_one ht (k := k) (by omega)
  unfold cntE at h3
  rw [count_split hj, ← ndE_eq hj] at h3
  have h4 : 0 < ((ns.take j).flatMap kidsE).countP (fun x => decide (x = (k : Int))) := by
    refine List.countP_pos_iff.2 ⟨k, List.mem_flatMap.2 ⟨ndE ns i, ?_, h1⟩, by simp⟩
    rw [ndE_eq (show i < ns.length by omega)]
    exact List.mem_take_iff_getElem.2 ⟨i, by omega, rfl⟩
  have h5 : 0 < (kidsE (ndE ns j)).countP (fun x => decide (x = (k : Int))) := List.countP_pos_iff.2 ⟨k, h2, by simp⟩
  omega
theorem par_kid {ns : List EN} (ht : MayT ns) {i k : Nat} (hi : i < ns.length) (h : (k : Int) ∈ kidsE (ndE ns i)) : (parE ns).getD k 0 = (i : Int) := by
  have hk := (kids_nn (may_kids ht) hi _ h).2
  rcases parE_up ht (k := k) (by omega) with ⟨h1, _⟩ | ⟨j, _, h2, h3, h4⟩
  · omega
  · rw [h4]
    rcases Nat.lt_trichotomy i j with h5 | h5 | h5
    · exact (kid_one ht h5 h2 h h3).elim
    · rw [h5]
    · exact (kid_one ht h5 hi h3 h).elim
def Sees (ns : List EN) (i : Nat) (r : Reach) : Prop := ∀ nm m, ns.length ≤ i + m + 1 → climb ns (parE ns) nm m i ((parE ns).getD i 0) = findR r nm
theorem Sees.root {ns : List EN} (ht : MayT ns) : Sees ns (ns.length - 1) [] := fun nm m hm => by
  have hp := ht.pos
  rcases parE_up ht (k := ns.length - 1) (by omega) with ⟨_, h⟩ | ⟨j, h1, h2, _⟩
  · rw [h]
    cases m with
    | zero => rfl
    | succ m => unfold climb; rw [if_pos (by decide)]; rfl
  · omega
theorem Sees.kid {ns : List EN} (ht : MayT ns) {i k : Nat} {r r' : Reach} (hs : Sees ns i r) (hi : i < ns.length) (h : (k : Int) ∈ kidsE (ndE ns i))
    (hb : ∀ nm, findR r' nm = if bindsE (ndE ns i) k nm > -2 then ((i : Int), bindsE (ndE ns i) k nm) else findR r nm) : Sees ns k r' := fun nm m hm => by
  have hk := (kids_nn (may_kids ht) hi _ h).2
  rw [par_kid ht hi h, hb nm]
  cases m with
  | zero => omega
  | succ m =>
    unfold climb
    rw [if_neg (by omega)]
    simp only [Int.toNat_natCast]
    rw [hs nm m (by omega)]
theorem refB_sees {ns : List EN} {i : Nat} {r : Reach} (hs : Sees ns i r) : refB ns i = if (ndE ns i).k = 4 then findR r (ndE ns i).name else noB := by
  unfold refB
  split
  · exact hs _ _ (by omega)
  · rfl
theorem fold_good {α : Type} {n q : Nat} {v : Bi} {S : α → Prop} {step : List Bi → α → List Bi} (hlen : ∀ l a, (step l a).length = l.length) :
    ∀ (xs : List α), (∀ a ∈ xs, ∀ l, l.length = n → (l.getD q noB = v ∨ S a) → (step l a).getD q noB = v) → ∀ l : List Bi, l.length = n → (l.getD q noB = v ∨ ∃ a ∈ xs, S a) → (xs.foldl step l).getD q noB = v
  | [], _, l, _, h => by
    rcases h with h | ⟨a, ha, _⟩
    · exact h
    · cases ha
  | x :: r, hs, l, hl, h => by
    rw [List.foldl_cons]
    refine fold_good hlen r (fun a ha => hs a (List.mem_cons_of_mem _ ha)) _ (by rw [hlen, hl]) ?_
    rcases h with h | ⟨a, ha, h⟩
    · exact .inl (hs x List.mem_cons_self l hl (.inl h))
    · rcases List.mem_cons.1 ha with rfl | ha
      · exact .inl (hs _ List.mem_cons_self l hl (.inr h))
      · exact .inr ⟨a, ha, h⟩
theorem mem_bel {ns : List EN} {m : Nat} {i x : Int} : x ∈ belE ns (m + 1) i ↔ (∃ k ∈ kidsE (ndE ns i.toNat), x ∈ belE ns m k) ∨ x = i := by
  show x ∈ (kidsE (ndE ns i.toNat)).flatMap (belE ns m) ++ [i] ↔ _
  rw [List.mem_append, List.mem_flatMap, List.mem_singleton]
theorem binds_no {n : EN} {k : Int} {nm : List UInt8} (h5 : n.k ≠ 5) (h7 : n.k = 7 → k ≠ n.b) (h8 : n.k ≠ 8) (h14 : n.k = 14 → ∀ j, j < n.l.length → (fdE n.l j).to ≠ k) : bindsE n k nm = -2 := by
  unfold bindsE
  rw [if_neg (by
    rintro (⟨a, _⟩ | ⟨a, _, b⟩ | ⟨a, _⟩)
    · exact h5 a
    · exact h7 a b
    · exact h8 a)]
  split
  · rename_i h
    rw [show (List.range n.l.length).find? (fun j => decide ((fdE n.l j).to = k) && decide ((fdE n.l j).var = nm)) = none from List.find?_eq_none.2 fun j hj => by
      simp [h14 h j (List.mem_range.1 hj)]]
  · rfl
theorem binds_by {n : EN} {k : Int} {nm : List UInt8} (h : n.k = 5 ∨ (n.k = 7 ∧ k = n.b) ∨ n.k = 8) : bindsE n k nm = if n.name = nm then -1 else -2 := by
  unfold bindsE
  by_cases hn : n.name = nm
  · have hc : (n.k = 5 ∧ n.name = nm) ∨ (n.k = 7 ∧ n.name = nm ∧ k = n.b) ∨ (n.k = 8 ∧ n.name = nm) := by
      rcases h with a | ⟨a, b⟩ | a
      · exact .inl ⟨a, hn⟩
      · exact .inr (.inl ⟨a, hn, b⟩)
      · exact .inr (.inr ⟨a, hn⟩)
    rw [if_pos hc, if_pos hn]
  · rw [if_neg (by rintro (⟨_, a⟩ | ⟨_, a, _⟩ | ⟨_, a⟩) <;> exact hn a), if_neg hn, if_neg (by omega)]
theorem see_by {ns : List EN} {i : Nat} {k : Int} {r : Reach} {nm : List UInt8} (h : (ndE ns i).k = 5 ∨ ((ndE ns i).k = 7 ∧ k = (ndE ns i).b) ∨ (ndE ns i).k = 8) :
    findR (r ++ [((ndE ns i).name, (i : Int), -1)]) nm = if bindsE (ndE ns i) k nm > -2 then ((i : Int), bindsE (ndE ns i) k nm) else findR r nm := by
  rw [findR_snoc, binds_by h]
  by_cases hn : (ndE ns i).name = nm
  · rw [if_pos hn, if_pos hn, if_pos (by decide)]
  · rw [if_neg hn, if_neg hn, if_neg (by decide)]
theorem see_no {ns : List EN} {i : Nat} {k : Int} {r : Reach} {nm : List UInt8} (h5 : (ndE ns i).k ≠ 5) (h7 : (ndE ns i).k = 7 → k ≠ (ndE ns i).b) (h8 : (ndE ns i).k ≠ 8) (h14 : (ndE ns i).k = 14 → ∀ j, j < (ndE ns i).l.length → (fdE (ndE ns i).l j).to ≠ k) :
    findR r nm = if bindsE (ndE ns i) k nm > -2 then ((i : Int), bindsE (ndE ns i) k nm) else findR r nm := by
  rw [binds_no h5 h7 h8 h14, if_neg (by decide)]
theorem cnt_inj {L : List Int} {x : Int} (h : L.countP (fun y => decide (y = x)) ≤ 1) {j j' : Nat} (hjj : j < j') (h1 : L[j]? = some x) (h2 : L[j']? = some x) : False := by
  have h3 : L.countP (fun y => decide (y = x)) = (L.take j').countP (fun y => decide (y = x)) + (L.drop j').countP (fun y => decide (y = x)) := by
    rw [← List.countP_append, List.take_append_drop]
  obtain ⟨hl2, he2⟩ := List.getElem?_eq_some_iff.1 h2
  obtain ⟨hl1, he1⟩ := List.getElem?_eq_some_iff.1 h1
  have h4 : 0 < (L.take j').countP (fun y => decide (y = x)) := List.countP_pos_iff.2 ⟨x, List.mem_take_iff_getElem.2 ⟨j, by omega, he1⟩, by simp⟩
  have h5 : 0 < (L.drop j').countP (fun y => decide (y = x)) := List.countP_pos_iff.2 ⟨x, by rw [List.drop_eq_getElem_cons hl2, he2]; exact List.mem_cons_self, by simp⟩
  omega
theorem kids14 {n : EN} (h : n.k = 14) : kidsE n = n.a :: n.l.map (·.to) := by unfold kidsE kidN partsZ; simp [h]
theorem kid_at {n : EN} {j : Nat} (h : n.k = 14) (hj : j < n.l.length) : (kidsE n)[j + 1]? = some (fdE n.l j).to := by
  rw [kids14 h]
  simp [fdE, hj]
theorem see_part {ns : List EN} (ht : MayT ns) {i j : Nat} {r : Reach} {nm : List UInt8} (hi : i < ns.length) (h : (ndE ns i).k = 14) (hj : j < (ndE ns i).l.length) :
    findR (r ++ [((fdE (ndE ns i).l j).var, (i : Int), (j : Int))]) nm = if bindsE (ndE ns i) (fdE (ndE ns i).l j).to nm > -2 then ((i : Int), bindsE (ndE ns i) (fdE (ndE ns i).l j).to nm) else findR r nm := by
  have hka := kid_at h hj
  have hkm : (fdE (ndE ns i).l j).to ∈ kidsE (ndE ns i) := List.mem_of_getElem? hka
  obtain ⟨hn0, hn1⟩ := kids_nn (may_kids ht) hi _ hkm
  have hon := kid_once ht (k := (fdE (ndE ns i).l j).to.toNat) hi (by omega)
  rw [Int.toNat_of_nonneg hn0] at hon
  have hne : ∀ j', j' < (ndE ns i).l.length → (fdE (ndE ns i).l j').to = (fdE (ndE ns i).l j).to → j' = j := fun j' hj' he => by
    have hk2 := kid_at h hj'
    rw [he] at hk2
    rcases Nat.lt_trichotomy j j' with h1 | h1 | h1
    · exact (cnt_inj hon (show j + 1 < j' + 1 by omega) hka hk2).elim
    · exact h1.symm
    · exact (cnt_inj hon (show j' + 1 < j + 1 by omega) hk2 hka).elim
  rw [findR_snoc]
  generalize ndE ns i = n at *
  have hb : bindsE n (fdE n.l j).to nm = if (fdE n.l j).var = nm then (j : Int) else -2 := by
    unfold bindsE
    rw [if_neg (by rintro (⟨a, _⟩ | ⟨a, _, _⟩ | ⟨a, _⟩) <;> omega), if_pos h]
    by_cases hv : (fdE n.l j).var = nm
    · rw [if_pos hv]
      obtain ⟨rr, hrr⟩ := range_pre (i := j + 1) (n := n.l.length) (by omega)
      rw [hrr, List.range_succ, List.append_assoc, List.find?_append, List.find?_eq_none.2 (fun j' hj' => by
        have hlt := List.mem_range.1 hj'
        have : (fdE n.l j').to ≠ (fdE n.l j).to := fun e => by have := hne j' (by omega) e; omega
        simp [this]), List.singleton_append, List.find?_cons]
      simp [hv]
    · rw [if_neg hv, List.find?_eq_none.2 (fun j' hj' => by
        have hlt := List.mem_range.1 hj'
        by_cases e : (fdE n.l j').to = (fdE n.l j).to
        · have := hne j' hlt e
          subst this
          simp [hv]
        · simp [e])]
  rw [hb]
  by_cases hv : (fdE n.l j).var = nm
  · rw [if_pos hv, if_pos hv, if_pos (by omega)]
  · rw [if_neg hv, if_neg hv, if_neg (by decide)]
theorem set_at {l : List Bi} {i q : Nat} {v : Bi} (hi : i < l.length) : (l.set i v).getD q noB = if q = i then v else l.getD q noB := by
  by_cases h : q = i
  · subst h
    rw [if_pos rfl]
    simp [hi]
  · rw [if_neg h]
    have h2 : i ≠ q := fun e => h e.symm
    simp [List.getD_eq_getElem?_getD, List.getElem?_set_ne h2]
theorem walkB_law {ns : List EN} (ht : MayT ns) : ∀ (m i : Nat) (r : Reach) (l : List Bi), i < m → i < ns.length → l.length = ns.length → Sees ns i r → ∀ q, q < ns.length → (l.getD q noB = refB ns q ∨ (q : Int) ∈ belE ns m i) → (walkB ns m i r l).getD q noB = refB ns q
  | 0, _, _, _, h, _, _, _, _, _, _ => absurd h (Nat.not_lt_zero _)
  | m + 1, i, r, l, him, hi, hl, hs, q, hq, hg => by
    have ih := walkB_law ht m
    have hkn := kids_nn (may_kids ht) hi
    have hrs := refB_sees hs
    have kid : ∀ (a : Int) (r' : Reach) (l' : List Bi), a ∈ kidsE (ndE ns i) → l'.length = ns.length → (∀ nm, findR r' nm = if bindsE (ndE ns i) a nm > -2 then ((i : Int), bindsE (ndE ns i) a nm) else findR r nm) → (l'.getD q noB = refB ns q ∨ (q : Int) ∈ belE ns m a) → (walkB ns m a.toNat r' l').getD q noB = refB ns q := by
      intro a r' l' ha hl' hf hgd
      obtain ⟨h1, h2⟩ := hkn a ha
      obtain ⟨k, rfl⟩ : ∃ k : Nat, a = (k : Int) := ⟨a.toNat, by omega⟩
      rw [Int.toNat_natCast]
      exact ih k r' l' (by omega) (by omega) hl' (hs.kid ht hi ha hf) q hq hgd
    rw [mem_bel] at hg
    simp only [Int.toNat_natCast] at hg
    have hg2 : (l.getD q noB = refB ns q ∨ q = i) ∨ ∃ k ∈ kidsE (ndE ns i), (q : Int) ∈ belE ns m k := by
      rcases hg with h | h | h
      · exact .inl (.inl h)
      · exact .inr h
      · exact .inl (.inr (by omega))
    have h0l : (l.set i noB).length = ns.length := by rw [List.length_set, hl]
    have h0 : (ndE ns i).k ≠ 4 → (l.getD q noB = refB ns q ∨ q = i) → (l.set i noB).getD q noB = refB ns q := by
      intro h4 h
      rw [set_at (by omega)]
      by_cases hqi : q = i
      · rw [if_pos hqi, hqi, hrs, if_neg h4]
      · rw [if_neg hqi]
        exact h.resolve_right hqi
    have hkd : kidsE (ndE ns i) = [(ndE ns i).a, (ndE ns i).b, (ndE ns i).c].take (kidN (ndE ns i).k) ++ (if partsZ (ndE ns i).k then (ndE ns i).l.map (·.to) else []) := rfl
    unfold walkB
    simp only
    by_cases h4 : (ndE ns i).k = 4
    · rw [if_pos h4, set_at (by omega)]
      by_cases hqi : q = i
      · rw [if_pos hqi, hqi, hrs, if_pos h4]
      · rw [if_neg hqi, set_at (by omega), if_neg hqi]
        rcases hg2 with h | ⟨k, hk, _⟩
        · exact h.resolve_right hqi
        · rw [hkd, h4] at hk
          simp [kidN, partsZ] at hk
    have hg3 : (l.set i noB).getD q noB = refB ns q ∨ ∃ k ∈ kidsE (ndE ns i), (q : Int) ∈ belE ns m k := hg2.imp (h0 h4) id
    rw [if_neg h4]
    by_cases h5 : (ndE ns i).k = 5
    · rw [if_pos h5]
      have hke : kidsE (ndE ns i) = [(ndE ns i).a] := by rw [hkd, h5]; simp [kidN, partsZ]
      refine kid _ _ _ (by rw [hke]; exact List.mem_singleton_self _) h0l (fun nm => see_by (.inl h5)) (hg3.imp id fun ⟨k, hk, hb⟩ => ?_)
      rw [hke, List.mem_singleton] at hk
      rw [← hk]; exact hb
    rw [if_neg h5]
    by_cases h7 : (ndE ns i).k = 7
    · rw [if_pos h7]
      have hke : kidsE (ndE ns i) = [(ndE ns i).a, (ndE ns i).b] := by rw [hkd, h7]; simp [kidN, partsZ]
      have ham : (ndE ns i).a ∈ kidsE (ndE ns i) := by rw [hke]; simp
      have hab : (ndE ns i).a ≠ (ndE ns i).b := by
        intro e
        obtain ⟨h1, h2⟩ := hkn _ ham
        have hon := kid_once ht (k := (ndE ns i).a.toNat) hi (by omega)
        rw [Int.toNat_of_nonneg h1] at hon
        exact cnt_inj hon (j := 0) (j' := 1) (by omega) (by rw [hke]; rfl) (by rw [hke, e]; rfl)
      refine kid _ _ _ (by rw [hke]; simp) (by rw [walkB_len, h0l]) (fun nm => see_by (.inr (.inl ⟨h7, rfl⟩))) ?_
      rcases hg3 with h | ⟨k, hk, hb⟩
      · exact .inl (kid _ _ _ ham h0l (fun nm => see_no h5 (fun _ => hab) (by omega) (fun h => by omega)) (.inl h))
      · rw [hke] at hk
        rcases List.mem_cons.1 hk with rfl | hk
        · exact .inl (kid _ _ _ ham h0l (fun nm => see_no h5 (fun _ => hab) (by omega) (fun h => by omega)) (.inr hb))
        · rw [List.mem_singleton] at hk
          exact .inr (by rw [← hk]; exact hb)
    rw [if_neg h7]
    by_cases h8 : (ndE ns i).k = 8
    · rw [if_pos h8]
      have hke : kidsE (ndE ns i) = [(ndE ns i).a, (ndE ns i).b] := by rw [hkd, h8]; simp [kidN, partsZ]
      have ham : (ndE ns i).a ∈ kidsE (ndE ns i) := by rw [hke]; simp
      refine kid _ _ _ (by rw [hke]; simp) (by rw [walkB_len, h0l]) (fun nm => see_by (.inr (.inr h8))) ?_
      rcases hg3 with h | ⟨k, hk, hb⟩
      · exact .inl (kid _ _ _ ham h0l (fun nm => see_by (.inr (.inr h8))) (.inl h))
      · rw [hke] at hk
        rcases List.mem_cons.1 hk with rfl | hk
        · exact .inl (kid _ _ _ ham h0l (fun nm => see_by (.inr (.inr h8))) (.inr hb))
        · rw [List.mem_singleton] at hk
          exact .inr (by rw [← hk]; exact hb)
    rw [if_neg h8]
    by_cases h14 : (ndE ns i).k = 14
    · rw [if_pos h14]
      have hke := kids14 h14
      have ham : (ndE ns i).a ∈ kidsE (ndE ns i) := by rw [hke]; exact List.mem_cons_self
      have han : ∀ j, j < (ndE ns i).l.length → (fdE (ndE ns i).l j).to ≠ (ndE ns i).a := by
        intro j hj e
        obtain ⟨h1, h2⟩ := hkn _ ham
        have hon := kid_once ht (k := (ndE ns i).a.toNat) hi (by omega)
        rw [Int.toNat_of_nonneg h1] at hon
        exact cnt_inj hon (j := 0) (j' := j + 1) (by omega) (by rw [hke]; rfl) (by rw [kid_at h14 hj, e])
      have ha := fun h => kid _ _ _ ham h0l (fun nm => see_no (r := r) h5 (fun h => absurd h h7) h8 (fun _ => han)) h
      refine fold_good (n := ns.length) (S := fun j => (q : Int) ∈ belE ns m (fdE (ndE ns i).l j).to) (fun l a => walkB_len _ _ _ _ _) _ (fun j hj l' hl' hgd => ?_) _ (by rw [walkB_len, h0l]) ?_
      · have hjl := List.mem_range.1 hj
        exact kid _ _ _ (List.mem_of_getElem? (kid_at h14 hjl)) hl' (fun nm => see_part ht hi h14 hjl) hgd
      · rcases hg3 with h | ⟨k, hk, hb⟩
        · exact .inl (ha (.inl h))
        · rw [hke] at hk
          rcases List.mem_cons.1 hk with rfl | hk
          · exact .inl (ha (.inr hb))
          · obtain ⟨j, hj, hjk⟩ := List.getElem_of_mem hk
            have hjl : j < (ndE ns i).l.length := by simpa using hj
            refine .inr ⟨j, List.mem_range.2 hjl, ?_⟩
            have : (fdE (ndE ns i).l j).to = k := by rw [← hjk]; simp [fdE, hjl]
            rw [this]; exact hb
    rw [if_neg h14]
    exact fold_good (n := ns.length) (S := fun k => (q : Int) ∈ belE ns m k) (fun l a => walkB_len _ _ _ _ _) _ (fun k hk l' hl' hgd => kid _ _ _ hk hl' (fun nm => see_no h5 (fun h => absurd h h7) h8 (fun h => absurd h h14)) hgd) _ h0l hg3
theorem bel_down {ns : List EN} (hk : ∀ i, i < ns.length → (kidsE (ndE ns i)).all (inB i) = true) {j : Nat} {x : Int} (hx : x ∈ kidsE (ndE ns j)) : ∀ (m i : Nat), i < m → i < ns.length → (j : Int) ∈ belE ns m i → x ∈ belE ns m i
  | 0, _, h, _, _ => absurd h (Nat.not_lt_zero _)
  | m + 1, i, him, hi, hj => by
    rw [mem_bel] at hj ⊢
    simp only [Int.toNat_natCast] at hj ⊢
    rcases hj with ⟨c, hc, hjc⟩ | hj
    · obtain ⟨h1, h2⟩ := kids_nn hk hi c hc
      obtain ⟨c, rfl⟩ : ∃ k : Nat, c = (k : Int) := ⟨c.toNat, by omega⟩
      exact .inl ⟨_, hc, bel_down hk hx m c (by omega) (by omega) hjc⟩
    · have : j = i := by omega
      subst this
      refine .inl ⟨x, hx, ?_⟩
      obtain ⟨h1, h2⟩ := kids_nn hk hi x hx
      cases m with
      | zero => omega
      | succ m => exact mem_bel.2 (.inr rfl)
theorem bel_all {ns : List EN} (ht : MayT ns) : ∀ (d k : Nat), ns.length - 1 - k ≤ d → k < ns.length → (k : Int) ∈ belE ns ns.length ((ns.length - 1 : Nat) : Int)
  | d, k, hd, hkn => by
    have hp := ht.pos
    rcases parE_up ht hkn with ⟨h1, _⟩ | ⟨j, h1, h2, h3, _⟩
    · obtain ⟨n, hn⟩ : ∃ n, ns.length = n + 1 := ⟨ns.length - 1, by omega⟩
      rw [hn]
      exact mem_bel.2 (.inr (by omega))
    · cases d with
      | zero => omega
      | succ d => exact bel_down (may_kids ht) h3 _ _ (by omega) (by omega) (bel_all ht d j (by omega) h2)
theorem bindE_ref {ns : List EN} (ht : MayT ns) : bindE ns = refBs ns := by
  have hp := ht.pos
  refine List.ext_getElem (by rw [bindE_len, refBs_len]) fun q h1 h2 => ?_
  rw [bindE_len] at h1
  have h := walkB_law ht ns.length (ns.length - 1) [] (List.replicate ns.length (0, 0)) (by omega) (by omega) (by simp) (.root ht) q h1 (.inr (bel_all ht _ q (Nat.le_refl _) h1))
  have h3 : (bindE ns).getD q noB = (bindE ns)[q] := by simp [bindE_len, h1]
  have h4 : (refBs ns)[q] = refB ns q := by simp [refBs]
  rw [← h3, h4]
  exact h
theorem head_filter {α : Type} (p : α → Bool) : ∀ l : List α, (l.filter p).head? = l.find? p
  | [] => rfl
  | x :: r => by
    rw [List.filter_cons, List.find?_cons]
    cases h : p x
    · simp
    · simp
theorem free_ref {ns : List EN} (ht : MayT ns) : (freeE ns).head? = (List.range ns.length).find? (fun i => decide ((ndE ns i).k = 4) && decide ((refB ns i).1 < 0)) := by
  unfold freeE
  rw [head_filter]
  have : ∀ i ∈ List.range ns.length, isFree ns (bindE ns) i = (decide ((ndE ns i).k = 4) && decide ((refB ns i).1 < 0)) := fun i hi => by
    have hin := List.mem_range.1 hi
    unfold isFree
    rw [bindE_ref ht]
    rw [show (refBs ns).getD i noB = refB ns i by simp [refBs, hin]]
  have key : ∀ (l : List Nat) (p q : Nat → Bool), (∀ i ∈ l, p i = q i) → l.find? p = l.find? q := by
    intro l p q
    induction l with
    | nil => intro _; rfl
    | cons x r ih =>
      intro h
      rw [List.find?_cons, List.find?_cons, h x List.mem_cons_self, ih (fun i hi => h i (List.mem_cons_of_mem _ hi))]
  exact key _ _ _ this
theorem closed_ref {ns : List EN} (hm : mayE ns = 0) : ((closedE ns).2 = 0 ↔ refClosed ns < 0) ∧ ((closedE ns).2 ≠ 0 → (closedE ns).2 = 10) := by
  have h := free_ref (mayT hm)
  unfold closedE refClosed
  rw [if_pos hm, ← h]
  cases freeE ns with
  | nil => simp
  | cons i r => simp
def withinE (ns : List EN) : Nat → Int → Int → Bool
  | 0, _, _ => false
  | m + 1, a, x => decide (a = x) || (kidsE (ndE ns a.toNat)).any (fun k => withinE ns m k x)
set_option maxHeartbeats 1000000 in
theorem f164_ok {G} (ns : List EN) (hs : ∀ n ∈ ns, n.l.length ≤ 1000000) (hk : ∀ i, i < ns.length → (kidsE (ndE ns i)).all (inB i) = true) (x : Int) :
    ∀ (m i : Nat), i < m → i < ns.length → HP Tryz.prog G 164 [exD ns, i64 (i : Int), i64 x] (fun r => r = .d (.bool (withinE ns m i x)))
  | 0, _, h, _ => absurd h (Nat.not_lt_zero _)
  | m + 1, i, him, hi => by
    have ih := f164_ok (G := G) ns hs hk x m
    have hg := ens_get hi
    have hsi := hs _ (by rw [ndE_eq hi]; exact List.getElem_mem hi : ndE ns i ∈ ns)
    have hkn := kids_nn hk hi
    have hw : withinE ns (m + 1) i x = (decide ((i : Int) = x) || (kidsE (ndE ns i)).any (fun k => withinE ns m k x)) := rfl
    have hkc := f73_ok (G := G) (ndE ns i) hsi
    obtain ⟨n, hne⟩ : ∃ n, n = ndE ns i := ⟨_, rfl⟩
    rw [← hne] at hg hsi hkn hw hkc
    obtain ⟨K, hK⟩ : ∃ K, K = kidsE n := ⟨_, rfl⟩
    have hKl : K.length ≤ 1000003 := by rw [hK, kidsE_len]; unfold wideE; have := kidN_le n.k; split <;> omega
    rw [← hK] at hkc hkn hw
    generalize hR : withinE ns (m + 1) i x = R at hw ⊢
    unfold exD at ih ⊢
    refine funZ_ok Tryz.func164 rfl (by decide +kernel) (by simp [Tryz.ntmps164]) (veil fun E => ?_)
    simp only [go_sem]
    refine e_ifd E (fun g1 => ?_) (fun g1 => ?_) <;> simp only [go_sem]
    · rw [hw, decide_eq_true g1, Bool.true_or]
      refine ⟨[], ?_⟩
      simp only [go_sem]
    rw [decide_eq_false g1, Bool.false_or] at hw
    refine ⟨⟨by omega, by omega⟩, ?_⟩
    rw [hg]
    simp only [go_sem]
    refine e_call E hkc rfl rfl (by simp) ?_
    rintro _ rfl
    simp only [go_sem]
    refine loopO_e E (X := { q : Nat // q ≤ K.length ∧ (K.take q).any (fun k => withinE ns m k x) = false }) (fun x1 => [(2, .d (i64 x)), (3, .at [3] 0), (7, .d (.sl none (K.map i64))), (8, .d (i64 x1.1))])
      (fun _ => [([3], .box [.d (.sl (some 9) (ns.map enD))])]) [3] (fun x1 => K.length - x1.1) ⟨0, Nat.zero_le _, rfl⟩ ?_ ?_
    · simp only [go_sem]
      all_goals first | rfl | exact ⟨rfl, rfl⟩
    rintro ⟨q, hq, hqn⟩ E0
    refine hideQ E0 fun Q' hQ E' => ?_
    simp only at hq hqn ⊢
    simp only [go_sem]
    refine e_ifd E' (fun f1 => ?_) (fun f1 => ?_) <;> simp only [go_sem]
    · have hq' : q < K.length := by omega
      obtain ⟨h1, h2⟩ := hkn K[q] (List.getElem_mem hq')
      obtain ⟨k, hkk⟩ : ∃ k : Nat, K[q] = (k : Int) := ⟨K[q].toNat, by omega⟩
      have hc := ih k (by omega) (by omega)
      obtain ⟨b, hb⟩ : ∃ b, b = withinE ns m (k : Int) x := ⟨_, rfl⟩
      rw [← hb] at hc
      have hstep : (K.take (q + 1)).any (fun k => withinE ns m k x) = b := by
        rw [List.take_succ_eq_append_getElem hq', List.any_append, hqn, hkk, hb]
        simp
      refine region_xv mixed E' fun X => ?_
      simp only [go_sem]
      refine ⟨⟨by omega, by omega⟩, ?_⟩
      rw [ints_get hq', show K.getD q 0 = (k : Int) by simp [hq', hkk]]
      simp only [go_sem]
      refine x_call X hc rfl rfl (by simp) ?_
      simp only [go_sem]
      refine ⟨by decide +kernel, ?_⟩
      cases b with
      | true =>
        simp only [go_sem]
        rw [hQ]
        simp only [go_sem]
        have : R = true := by
          rw [hw, ← List.take_append_drop (q + 1) K, List.any_append, hstep, Bool.true_or]
        rw [this]
        refine ⟨[], ?_⟩
        simp only [go_sem]
      | false =>
        simp only [go_sem]
        rw [w64_in ⟨by omega, by omega⟩, hQ]
        simp only [go_sem]
        refine ⟨⟨q + 1, by omega, hstep⟩, by show K.length - (q + 1) < _; omega, ?_⟩
        first | rfl | exact ⟨rfl, rfl⟩
    · have h3 : q = K.length := by omega
      subst h3
      rw [List.take_length] at hqn
      rw [hqn] at hw
      rw [hQ]
      simp only [go_sem]
      rw [hw]
      refine ⟨[], ?_⟩
      simp only [go_sem]
def errE (ns : List EN) : Int := if mayE ns ≠ 0 then mayE ns else if 0 ≤ refClosed ns then 10 else 0
theorem f64_ok {G} (ns : List EN) (hs : ∀ n ∈ ns, SaneN BIG n) (hN : ns.length ≤ 1000000) (hl : ∀ n ∈ ns, n.l.length ≤ 1000000) : HP Tryz.prog G 64 [exD ns] (fun r => r = .d (i64 (errE ns))) := by
  have hm := f67_ok (G := G) ns hs hN
  generalize hR : errE ns = R
  unfold errE at hR
  by_cases h0 : mayE ns = 0
  · have ht := mayT h0
    have hc := f113_ok (G := G) ns ht hN hl
    rw [if_neg (by simp [h0])] at hR
    rw [h0] at hm
    obtain ⟨c, hce⟩ : ∃ c, c = refClosed ns := ⟨_, rfl⟩
    rw [← hce] at hc hR
    unfold exD at hm hc ⊢
    refine funZ_ok Tryz.func64 rfl (by decide +kernel) (by simp [Tryz.ntmps64]) (veil fun E => ?_)
    simp only [go_sem]
    refine e_call E hm rfl rfl (by simp) ?_
    rintro _ rfl
    simp only [go_sem]
    refine e_call E hc rfl rfl (by simp) ?_
    rintro _ rfl
    simp only [go_sem]
    refine e_ifd E (fun g1 => ?_) (fun g1 => ?_) <;> simp only [go_sem]
    · rw [if_pos (by omega)] at hR
      rw [← hR]
      refine ⟨[], ?_⟩
      simp only [go_sem]
    · rw [if_neg (by omega)] at hR
      rw [← hR]
      refine ⟨[], ?_⟩
      simp only [go_sem]
  · rw [if_pos h0] at hR
    rw [hR] at hm h0
    unfold exD at hm ⊢
    refine funZ_ok Tryz.func64 rfl (by decide +kernel) (by simp [Tryz.ntmps64]) (veil fun E => ?_)
    simp only [go_sem]
    refine e_call E hm rfl rfl (by simp) ?_
    rintro _ rfl
    simp only [go_sem]
    refine e_ifd E (fun h1 => ?_) (fun h1 => absurd h1 (by simpa using h0)) <;> simp only [go_sem]
    refine ⟨[], ?_⟩
    simp only [go_sem]
theorem err_ref (ns : List EN) : (mayE ns = 0 ∧ (closedE ns).2 = 0) ↔ errE ns = 0 := by
  unfold errE
  by_cases h0 : mayE ns = 0
  · have h := (closed_ref h0).1
    rw [if_neg (by simp [h0])]
    by_cases hc : 0 ≤ refClosed ns
    · rw [if_pos hc]
      simp [h0, h]
      omega
    · rw [if_neg hc]
      simp [h0, h]
      omega
  · simp [h0]
end Go.Proofs.YtejpnabbmgpmaaaGreat
