/-
  Names: which name is fresh; whether one stands there twice: both answers.
-/
import Derived.Test.YtmplpdjddjiioaaDoorN4
set_option linter.all false
namespace Go.Proofs.YtmplpdjddjiioaaDoor
open Go.Ab
variable {t : TypeId} {fz : Nat × Nat}
theorem zero4 : zeroD Tryd.prog 4 = some (.bool false) := by kernel_rfl
theorem f30_ok (s : List UInt8) (used : List (List UInt8)) (hl : used.length ≤ 1000000) : HP Tryd.prog (GT t fz) 30 [.str s, strs used] (fun r => ∃ n, r = .d (.str (cand s n)) ∧ isFresh s used n) := by
  refine funP_ok Tryd.func30 rfl (by decide +kernel) (by simp [Tryd.ntmps30]) (veil fun E => ?_)
  unfold strs
  simp only [go_sem, Nat.reduceEqDiff, Nat.reduceLT, ↓reduceIte, Nat.reduceAdd, Nat.reduceMul, Nat.reduceLeDiff, Nat.reduceSub, Nat.reduceBEq, Int.reduceEq, Int.reduceLT, Int.reduceLE, Int.reduceToNat, Int.reduceAdd, Int.reduceSub, Int.reduceNeg, UInt8.reduceToNat]
  refine e_makeMap E (by simp) (by simp [mk_used]) ?_
  simp only [go_sem, Nat.reduceEqDiff, Nat.reduceLT, ↓reduceIte, Nat.reduceAdd, Nat.reduceMul, Nat.reduceLeDiff, Nat.reduceSub, Nat.reduceBEq, Int.reduceEq, Int.reduceLT, Int.reduceLE, Int.reduceToNat, Int.reduceAdd, Int.reduceSub, Int.reduceNeg, UInt8.reduceToNat]
  refine loopO_e E (X := { i : Nat // i ≤ used.length }) (fun x => [(0, .d (.str s)), (5, .mp [10]), (11, .d (.sl none (used.map .str))), (12, .d (i64 used.length)), (13, .d (i64 x.1))]) (fun x => [([10], .map (menc D.str (setOf (used.take x.1))))]) [10] (fun x => used.length - x.1) ⟨0, by simp⟩ ?_ ?_
  · simp only [go_sem, Nat.reduceEqDiff, Nat.reduceLT, ↓reduceIte, Nat.reduceAdd, Nat.reduceMul, Nat.reduceLeDiff, Nat.reduceSub, Nat.reduceBEq, Int.reduceEq, Int.reduceLT, Int.reduceLE, Int.reduceToNat, Int.reduceAdd, Int.reduceSub, Int.reduceNeg, UInt8.reduceToNat]
    all_goals rfl
  rintro ⟨i, hi⟩ E'
  simp only [go_sem, Nat.reduceEqDiff, Nat.reduceLT, ↓reduceIte, Nat.reduceAdd, Nat.reduceMul, Nat.reduceLeDiff, Nat.reduceSub, Nat.reduceBEq, Int.reduceEq, Int.reduceLT, Int.reduceLE, Int.reduceToNat, Int.reduceAdd, Int.reduceSub, Int.reduceNeg, UInt8.reduceToNat]
  refine e_ifd E' (fun h1 => ?_) (fun h1 => ?_) <;> simp only [go_sem, Nat.reduceEqDiff, Nat.reduceLT, ↓reduceIte, Nat.reduceAdd, Nat.reduceMul, Nat.reduceLeDiff, Nat.reduceSub, Nat.reduceBEq, Int.reduceEq, Int.reduceLT, Int.reduceLE, Int.reduceToNat, Int.reduceAdd, Int.reduceSub, Int.reduceNeg, UInt8.reduceToNat]
  · have hi' : i < used.length := by omega
    refine ⟨⟨by omega, by omega⟩, ?_⟩
    rw [strs_get hi']
    simp only [go_sem, Nat.reduceEqDiff, Nat.reduceLT, ↓reduceIte, Nat.reduceAdd, Nat.reduceMul, Nat.reduceLeDiff, Nat.reduceSub, Nat.reduceBEq, Int.reduceEq, Int.reduceLT, Int.reduceLE, Int.reduceToNat, Int.reduceAdd, Int.reduceSub, Int.reduceNeg, UInt8.reduceToNat]
    refine e_mapUpdate E' [10] (setOf (used.take i)) (used.getD i []) (.bool true) (by rw [ti57]) (keyStr (by rw [ti9])) rfl rfl rfl rfl rfl ?_
    simp only [go_sem, Nat.reduceEqDiff, Nat.reduceLT, ↓reduceIte, Nat.reduceAdd, Nat.reduceMul, Nat.reduceLeDiff, Nat.reduceSub, Nat.reduceBEq, Int.reduceEq, Int.reduceLT, Int.reduceLE, Int.reduceToNat, Int.reduceAdd, Int.reduceSub, Int.reduceNeg, UInt8.reduceToNat]
    refine ⟨⟨i + 1, by omega⟩, by show used.length - (i + 1) < _; omega, by rw [w64_in ⟨by omega, by omega⟩]; rfl, ?_⟩
    rw [List.take_succ_eq_append_getElem hi', setOf_snoc]
    simp [hi']
  · have hil : i = used.length := by omega
    subst hil
    rw [List.take_length]
    refine loopO_e E (X := { i : Nat // 1 ≤ i ∧ ∀ j, j < i - 1 → cand s j ∈ used }) (fun x => [(0, .d (.str s)), (5, .mp [10]), (8, .d (.str (cand s (x.1 - 1)))), (9, .d (i64 x.1))]) (fun x => [([10], .map (menc D.str (setOf used)))]) [10] (fun x => used.length + 2 - x.1) ⟨1, by simp⟩ ?_ ?_
    · simp only [go_sem, Nat.reduceEqDiff, Nat.reduceLT, ↓reduceIte, Nat.reduceAdd, Nat.reduceMul, Nat.reduceLeDiff, Nat.reduceSub, Nat.reduceBEq, Int.reduceEq, Int.reduceLT, Int.reduceLE, Int.reduceToNat, Int.reduceAdd, Int.reduceSub, Int.reduceNeg, UInt8.reduceToNat]
      all_goals rfl
    rintro ⟨i, h1i, hin⟩ E2
    simp only [go_sem, Nat.reduceEqDiff, Nat.reduceLT, ↓reduceIte, Nat.reduceAdd, Nat.reduceMul, Nat.reduceLeDiff, Nat.reduceSub, Nat.reduceBEq, Int.reduceEq, Int.reduceLT, Int.reduceLE, Int.reduceToNat, Int.reduceAdd, Int.reduceSub, Int.reduceNeg, UInt8.reduceToNat]
    refine e_lookup E2 [10] (setOf used) (cand s (i - 1)) (.bool false) (by rw [ti57]) (keyStr (by rw [ti9])) zero4 rfl rfl rfl (by simp) ?_
    simp only [go_sem, Nat.reduceEqDiff, Nat.reduceLT, ↓reduceIte, Nat.reduceAdd, Nat.reduceMul, Nat.reduceLeDiff, Nat.reduceSub, Nat.reduceBEq, Int.reduceEq, Int.reduceLT, Int.reduceLE, Int.reduceToNat, Int.reduceAdd, Int.reduceSub, Int.reduceNeg, UInt8.reduceToNat]
    rw [look_set]
    refine e_ifd E2 (fun h2 => ?_) (fun h2 => ?_) <;> simp only [go_sem, Nat.reduceEqDiff, Nat.reduceLT, ↓reduceIte, Nat.reduceAdd, Nat.reduceMul, Nat.reduceLeDiff, Nat.reduceSub, Nat.reduceBEq, Int.reduceEq, Int.reduceLT, Int.reduceLE, Int.reduceToNat, Int.reduceAdd, Int.reduceSub, Int.reduceNeg, UInt8.reduceToNat]
    · have hall : ∀ j, j < i → cand s j ∈ used := fun j hj => by
        by_cases e : j = i - 1
        · rw [e]; exact h2
        · exact hin j (by omega)
      have hb : i - 1 ≤ used.length := cand_bound fun j _ hj => hall j (by omega)
      refine region_qv mixed (by decide +kernel) E2 fun E3 => ?_
      simp only [go_sem, Nat.reduceEqDiff, Nat.reduceLT, ↓reduceIte, Nat.reduceAdd, Nat.reduceMul, Nat.reduceLeDiff, Nat.reduceSub, Nat.reduceBEq, Int.reduceEq, Int.reduceLT, Int.reduceLE, Int.reduceToNat, Int.reduceAdd, Int.reduceSub, Int.reduceNeg, UInt8.reduceToNat]
      rw [cut_eq 16 (by decide) s]
      refine ⟨cut_in 16 _ (by decide) (by omega), ?_⟩
      refine q_call E3 (f52_ok (i : Int) ⟨by omega, by omega⟩) rfl rfl (by simp) ?_
      simp only [go_sem, Nat.reduceEqDiff, Nat.reduceLT, ↓reduceIte, Nat.reduceAdd, Nat.reduceMul, Nat.reduceLeDiff, Nat.reduceSub, Nat.reduceBEq, Int.reduceEq, Int.reduceLT, Int.reduceLE, Int.reduceToNat, Int.reduceAdd, Int.reduceSub, Int.reduceNeg, UInt8.reduceToNat]
      have hlen := Lib.itoa_length_le (i : Int) (by omega) (by omega)
      refine ⟨by simp only [List.length_take]; omega, ?_⟩
      refine ⟨⟨i + 1, by omega, fun j hj => hall j (by omega)⟩, by show used.length + 2 - (i + 1) < _; omega, ?_, by rw [w64_in ⟨by omega, by omega⟩]; rfl⟩
      show _ = AV.d (.str (cand s (i + 1 - 1)))
      rw [Nat.add_sub_cancel, cand, if_neg (by omega)]
    · exact ⟨i - 1, rfl, h2, hin⟩
theorem f32_ok (s : List UInt8) (used : List (List UInt8)) (hl : used.length ≤ 1000000) : HP Tryd.prog (GT t fz) 32 [.str s, strs used] (fun r => ∃ n, r = .d (.str (cand s n)) ∧ isFresh s used n) := by
  refine funP_ok Tryd.func32 rfl (by decide +kernel) (by simp [Tryd.ntmps32]) (veil fun E => ?_)
  simp only [go_sem, Nat.reduceEqDiff, Nat.reduceLT, ↓reduceIte, Nat.reduceAdd, Nat.reduceMul, Nat.reduceLeDiff, Nat.reduceSub, Nat.reduceBEq, Int.reduceEq, Int.reduceLT, Int.reduceLE, Int.reduceToNat, Int.reduceAdd, Int.reduceSub, Int.reduceNeg, UInt8.reduceToNat]
  refine e_call E (f50_ok s used (by omega)) rfl rfl (by simp) ?_
  rintro _ rfl
  simp only [go_sem, Nat.reduceEqDiff, Nat.reduceLT, ↓reduceIte, Nat.reduceAdd, Nat.reduceMul, Nat.reduceLeDiff, Nat.reduceSub, Nat.reduceBEq, Int.reduceEq, Int.reduceLT, Int.reduceLE, Int.reduceToNat, Int.reduceAdd, Int.reduceSub, Int.reduceNeg, UInt8.reduceToNat]
  refine e_if E (fun h0 => ?_) (fun h0 => ?_) <;> simp only [go_sem, Nat.reduceEqDiff, Nat.reduceLT, ↓reduceIte, Nat.reduceAdd, Nat.reduceMul, Nat.reduceLeDiff, Nat.reduceSub, Nat.reduceBEq, Int.reduceEq, Int.reduceLT, Int.reduceLE, Int.reduceToNat, Int.reduceAdd, Int.reduceSub, Int.reduceNeg, UInt8.reduceToNat]
  · have h0 : s ∉ used := by simpa using h0
    exact ⟨0, rfl, h0, fun j hj => absurd hj (Nat.not_lt_zero _)⟩
  have h0 : s ∈ used := by simpa using h0
  have h00 : ∀ j, j < 1 → cand s j ∈ used := fun j hj => by
    rw [show j = 0 by omega]; exact h0
  refine loopP_e E (X := { i : Nat // 1 ≤ i ∧ i ≤ used.length + 2 ∧ ∀ j, j < i → cand s j ∈ used }) (fun x => [(0, .d (.str s)), (1, .d (strs used)), (5, .d (i64 x.1))]) (fun x => used.length + 2 - x.1) rfl ⟨1, by omega, by omega, h00⟩ ?_ ?_
  · simp only [go_sem, Nat.reduceEqDiff, Nat.reduceLT, ↓reduceIte, Nat.reduceAdd, Nat.reduceMul, Nat.reduceLeDiff, Nat.reduceSub, Nat.reduceBEq, Int.reduceEq, Int.reduceLT, Int.reduceLE, Int.reduceToNat, Int.reduceAdd, Int.reduceSub, Int.reduceNeg, UInt8.reduceToNat]
    all_goals rfl
  rintro ⟨i, h1i, hi, hall⟩ E2
  unfold strs
  simp only [go_sem, Nat.reduceEqDiff, Nat.reduceLT, ↓reduceIte, Nat.reduceAdd, Nat.reduceMul, Nat.reduceLeDiff, Nat.reduceSub, Nat.reduceBEq, Int.reduceEq, Int.reduceLT, Int.reduceLE, Int.reduceToNat, Int.reduceAdd, Int.reduceSub, Int.reduceNeg, UInt8.reduceToNat]
  have e1 : w64 ((used.length : Int) + 1) = ((used.length + 1 : Nat) : Int) := w64_in ⟨by omega, by omega⟩
  rw [e1]
  refine e_ifd E2 (fun h2 => ?_) (fun h2 => ?_) <;> simp only [go_sem, Nat.reduceEqDiff, Nat.reduceLT, ↓reduceIte, Nat.reduceAdd, Nat.reduceMul, Nat.reduceLeDiff, Nat.reduceSub, Nat.reduceBEq, Int.reduceEq, Int.reduceLT, Int.reduceLE, Int.reduceToNat, Int.reduceAdd, Int.reduceSub, Int.reduceNeg, UInt8.reduceToNat]
  · refine region_qv mixed (by decide +kernel) E2 fun E3 => ?_
    simp only [go_sem, Nat.reduceEqDiff, Nat.reduceLT, ↓reduceIte, Nat.reduceAdd, Nat.reduceMul, Nat.reduceLeDiff, Nat.reduceSub, Nat.reduceBEq, Int.reduceEq, Int.reduceLT, Int.reduceLE, Int.reduceToNat, Int.reduceAdd, Int.reduceSub, Int.reduceNeg, UInt8.reduceToNat]
    rw [cut_eq 16 (by decide) s]
    refine ⟨cut_in 16 _ (by decide) (by omega), ?_⟩
    refine q_call E3 (f54_ok (i : Int) ⟨by omega, by omega⟩) rfl rfl (by simp) ?_
    simp only [go_sem, Nat.reduceEqDiff, Nat.reduceLT, ↓reduceIte, Nat.reduceAdd, Nat.reduceMul, Nat.reduceLeDiff, Nat.reduceSub, Nat.reduceBEq, Int.reduceEq, Int.reduceLT, Int.reduceLE, Int.reduceToNat, Int.reduceAdd, Int.reduceSub, Int.reduceNeg, UInt8.reduceToNat]
    have hlen := Lib.itoa_length_le (i : Int) (by omega) (by omega)
    refine ⟨by simp only [List.length_take]; omega, ?_⟩
    have ec : s.take 16 ++ Lib.itoa (i : Int) = cand s i := by rw [cand, if_neg (by omega)]
    refine e_call E2 (f50_ok (cand s i) used (by omega)) rfl (by rw [← ec]; rfl) (by simp) ?_
    rintro _ rfl
    simp only [go_sem, Nat.reduceEqDiff, Nat.reduceLT, ↓reduceIte, Nat.reduceAdd, Nat.reduceMul, Nat.reduceLeDiff, Nat.reduceSub, Nat.reduceBEq, Int.reduceEq, Int.reduceLT, Int.reduceLE, Int.reduceToNat, Int.reduceAdd, Int.reduceSub, Int.reduceNeg, UInt8.reduceToNat]
    refine e_if E2 (fun h3 => ?_) (fun h3 => ?_) <;> simp only [go_sem, Nat.reduceEqDiff, Nat.reduceLT, ↓reduceIte, Nat.reduceAdd, Nat.reduceMul, Nat.reduceLeDiff, Nat.reduceSub, Nat.reduceBEq, Int.reduceEq, Int.reduceLT, Int.reduceLE, Int.reduceToNat, Int.reduceAdd, Int.reduceSub, Int.reduceNeg, UInt8.reduceToNat]
    · have h3 : cand s i ∉ used := by simpa using h3
      exact ⟨i, by rw [ec], h3, hall⟩
    · have h3 : cand s i ∈ used := by simpa using h3
      refine ⟨⟨i + 1, by omega, by omega, fun j hj => ?_⟩, by show used.length + 2 - (i + 1) < _; omega, rfl, by rw [w64_in ⟨by omega, by omega⟩]; rfl⟩
      by_cases e : j = i
      · rw [e]; exact h3
      · exact hall j (by omega)
  · have hb : i - 1 ≤ used.length := cand_bound fun j _ hj => hall j (by omega)
    have : i = used.length + 2 := by omega
    have hb2 : used.length + 1 ≤ used.length := cand_bound (s := s) fun j _ hj => hall j (by omega)
    omega
def twice (l : List (List UInt8)) : Bool := !decide l.Nodup
theorem nd_step {l : List (List UInt8)} {i : Nat} (hi : i < l.length) (h : (l.take i).Nodup) (h2 : l.getD i [] ∉ l.take i) : (l.take (i + 1)).Nodup := by
  have e : l.getD i [] = l[i] := by simp [hi]
  rw [e] at h2
  rw [List.take_succ_eq_append_getElem hi, List.nodup_append]
  exact ⟨h, by simp, fun x hx y hy => by rw [List.mem_singleton.1 hy]; rintro rfl; exact h2 hx⟩
theorem nd_not {l : List (List UInt8)} {i : Nat} (hi : i < l.length) (h2 : l.getD i [] ∈ l.take i) : twice l = true := by
  have e : l.getD i [] = l[i] := by simp [hi]
  rw [e] at h2
  have : ¬ l.Nodup := fun hn => by
    have hs : (l.take (i + 1)).Nodup := hn.sublist (List.take_sublist _ _)
    rw [List.take_succ_eq_append_getElem hi, List.nodup_append] at hs
    exact hs.2.2 _ h2 _ (by simp) rfl
  simp [twice, this]
theorem f33_ok {G} (l : List (List UInt8)) (hl : l.length ≤ 1000000) : HP Tryd.prog G 33 [strs l] (fun r => r = .d (.bool (twice l))) := by
  refine funP_ok Tryd.func33 rfl (by decide +kernel) (by simp [Tryd.ntmps33]) (veil fun E => ?_)
  unfold strs
  simp only [go_sem, Nat.reduceEqDiff, Nat.reduceLT, ↓reduceIte, Nat.reduceAdd, Nat.reduceMul, Nat.reduceLeDiff, Nat.reduceSub, Nat.reduceBEq, Int.reduceEq, Int.reduceLT, Int.reduceLE, Int.reduceToNat, Int.reduceAdd, Int.reduceSub, Int.reduceNeg, UInt8.reduceToNat]
  refine e_makeMap E (by simp) (by simp [mk_used]) ?_
  simp only [go_sem, Nat.reduceEqDiff, Nat.reduceLT, ↓reduceIte, Nat.reduceAdd, Nat.reduceMul, Nat.reduceLeDiff, Nat.reduceSub, Nat.reduceBEq, Int.reduceEq, Int.reduceLT, Int.reduceLE, Int.reduceToNat, Int.reduceAdd, Int.reduceSub, Int.reduceNeg, UInt8.reduceToNat]
  refine loopO_e E (X := { i : Nat // i ≤ l.length ∧ (l.take i).Nodup }) (fun x => [(3, .mp [6]), (7, .d (.sl none (l.map .str))), (8, .d (i64 l.length)), (9, .d (i64 x.1))]) (fun x => [([6], .map (menc D.str (setOf (l.take x.1))))]) [6] (fun x => l.length - x.1) ⟨0, by simp⟩ ?_ ?_
  · simp only [go_sem, Nat.reduceEqDiff, Nat.reduceLT, ↓reduceIte, Nat.reduceAdd, Nat.reduceMul, Nat.reduceLeDiff, Nat.reduceSub, Nat.reduceBEq, Int.reduceEq, Int.reduceLT, Int.reduceLE, Int.reduceToNat, Int.reduceAdd, Int.reduceSub, Int.reduceNeg, UInt8.reduceToNat]
    all_goals rfl
  rintro ⟨i, hi, hn⟩ E'
  simp only [go_sem, Nat.reduceEqDiff, Nat.reduceLT, ↓reduceIte, Nat.reduceAdd, Nat.reduceMul, Nat.reduceLeDiff, Nat.reduceSub, Nat.reduceBEq, Int.reduceEq, Int.reduceLT, Int.reduceLE, Int.reduceToNat, Int.reduceAdd, Int.reduceSub, Int.reduceNeg, UInt8.reduceToNat]
  refine e_ifd E' (fun h1 => ?_) (fun h1 => ?_) <;> simp only [go_sem, Nat.reduceEqDiff, Nat.reduceLT, ↓reduceIte, Nat.reduceAdd, Nat.reduceMul, Nat.reduceLeDiff, Nat.reduceSub, Nat.reduceBEq, Int.reduceEq, Int.reduceLT, Int.reduceLE, Int.reduceToNat, Int.reduceAdd, Int.reduceSub, Int.reduceNeg, UInt8.reduceToNat]
  · have hi' : i < l.length := by omega
    refine ⟨⟨by omega, by omega⟩, ?_⟩
    rw [strs_get hi']
    simp only [go_sem, Nat.reduceEqDiff, Nat.reduceLT, ↓reduceIte, Nat.reduceAdd, Nat.reduceMul, Nat.reduceLeDiff, Nat.reduceSub, Nat.reduceBEq, Int.reduceEq, Int.reduceLT, Int.reduceLE, Int.reduceToNat, Int.reduceAdd, Int.reduceSub, Int.reduceNeg, UInt8.reduceToNat]
    refine e_lookup E' [6] (setOf (l.take i)) (l.getD i []) (.bool false) (by rw [ti57]) (keyStr (by rw [ti9])) zero4 rfl rfl rfl (by simp) ?_
    simp only [go_sem, Nat.reduceEqDiff, Nat.reduceLT, ↓reduceIte, Nat.reduceAdd, Nat.reduceMul, Nat.reduceLeDiff, Nat.reduceSub, Nat.reduceBEq, Int.reduceEq, Int.reduceLT, Int.reduceLE, Int.reduceToNat, Int.reduceAdd, Int.reduceSub, Int.reduceNeg, UInt8.reduceToNat]
    rw [look_set]
    refine e_ifd E' (fun h2 => ?_) (fun h2 => ?_) <;> simp only [go_sem, Nat.reduceEqDiff, Nat.reduceLT, ↓reduceIte, Nat.reduceAdd, Nat.reduceMul, Nat.reduceLeDiff, Nat.reduceSub, Nat.reduceBEq, Int.reduceEq, Int.reduceLT, Int.reduceLE, Int.reduceToNat, Int.reduceAdd, Int.reduceSub, Int.reduceNeg, UInt8.reduceToNat]
    · rw [nd_not hi' h2]
    refine e_mapUpdate E' [6] (setOf (l.take i)) (l.getD i []) (.bool true) (by rw [ti57]) (keyStr (by rw [ti9])) rfl rfl rfl rfl rfl ?_
    simp only [go_sem, Nat.reduceEqDiff, Nat.reduceLT, ↓reduceIte, Nat.reduceAdd, Nat.reduceMul, Nat.reduceLeDiff, Nat.reduceSub, Nat.reduceBEq, Int.reduceEq, Int.reduceLT, Int.reduceLE, Int.reduceToNat, Int.reduceAdd, Int.reduceSub, Int.reduceNeg, UInt8.reduceToNat]
    refine ⟨⟨i + 1, by omega, nd_step hi' hn h2⟩, by show l.length - (i + 1) < _; omega, by rw [w64_in ⟨by omega, by omega⟩]; rfl, ?_⟩
    rw [List.take_succ_eq_append_getElem hi', setOf_snoc]
    simp [hi']
  · have hil : i = l.length := by omega
    subst hil
    rw [List.take_length] at hn
    simp [twice, hn]
theorem f34_ok {G} (l : List (List UInt8)) (hl : l.length ≤ 1000000) : HP Tryd.prog G 34 [strs l] (fun r => r = .d (.bool (twice l))) := by
  refine funP_ok Tryd.func34 rfl (by decide +kernel) (by simp [Tryd.ntmps34]) (veil fun E => ?_)
  unfold strs
  simp only [go_sem, Nat.reduceEqDiff, Nat.reduceLT, ↓reduceIte, Nat.reduceAdd, Nat.reduceMul, Nat.reduceLeDiff, Nat.reduceSub, Nat.reduceBEq, Int.reduceEq, Int.reduceLT, Int.reduceLE, Int.reduceToNat, Int.reduceAdd, Int.reduceSub, Int.reduceNeg, UInt8.reduceToNat]
  refine loopP_e E (X := { i : Nat // i ≤ l.length ∧ (l.take i).Nodup }) (fun x => [(0, .d (.sl none (l.map .str))), (3, .d (i64 x.1))]) (fun x => l.length - x.1) rfl ⟨0, by simp⟩ ?_ ?_
  · simp only [go_sem, Nat.reduceEqDiff, Nat.reduceLT, ↓reduceIte, Nat.reduceAdd, Nat.reduceMul, Nat.reduceLeDiff, Nat.reduceSub, Nat.reduceBEq, Int.reduceEq, Int.reduceLT, Int.reduceLE, Int.reduceToNat, Int.reduceAdd, Int.reduceSub, Int.reduceNeg, UInt8.reduceToNat]
    all_goals rfl
  rintro ⟨i, hi, hn⟩ E'
  simp only [go_sem, Nat.reduceEqDiff, Nat.reduceLT, ↓reduceIte, Nat.reduceAdd, Nat.reduceMul, Nat.reduceLeDiff, Nat.reduceSub, Nat.reduceBEq, Int.reduceEq, Int.reduceLT, Int.reduceLE, Int.reduceToNat, Int.reduceAdd, Int.reduceSub, Int.reduceNeg, UInt8.reduceToNat]
  refine e_ifd E' (fun h1 => ?_) (fun h1 => ?_) <;> simp only [go_sem, Nat.reduceEqDiff, Nat.reduceLT, ↓reduceIte, Nat.reduceAdd, Nat.reduceMul, Nat.reduceLeDiff, Nat.reduceSub, Nat.reduceBEq, Int.reduceEq, Int.reduceLT, Int.reduceLE, Int.reduceToNat, Int.reduceAdd, Int.reduceSub, Int.reduceNeg, UInt8.reduceToNat]
  · have hi' : i < l.length := by omega
    refine region_qv mixed (by decide +kernel) E' fun E3 => ?_
    simp only [go_sem, Nat.reduceEqDiff, Nat.reduceLT, ↓reduceIte, Nat.reduceAdd, Nat.reduceMul, Nat.reduceLeDiff, Nat.reduceSub, Nat.reduceBEq, Int.reduceEq, Int.reduceLT, Int.reduceLE, Int.reduceToNat, Int.reduceAdd, Int.reduceSub, Int.reduceNeg, UInt8.reduceToNat]
    refine ⟨⟨by omega, by omega⟩, ?_⟩
    rw [strs_get hi']
    simp only [go_sem, Nat.reduceEqDiff, Nat.reduceLT, ↓reduceIte, Nat.reduceAdd, Nat.reduceMul, Nat.reduceLeDiff, Nat.reduceSub, Nat.reduceBEq, Int.reduceEq, Int.reduceLT, Int.reduceLE, Int.reduceToNat, Int.reduceAdd, Int.reduceSub, Int.reduceNeg, UInt8.reduceToNat]
    refine ⟨⟨by omega, by omega⟩, ?_⟩
    refine q_call E3 (f50_ok (l.getD i []) (l.take i) (by simp only [List.length_take]; omega)) rfl (by simp [ev, mk_fr, lkA, strs, St.put, List.map_take, St.putO]) (by simp) ?_
    simp only [go_sem, Nat.reduceEqDiff, Nat.reduceLT, ↓reduceIte, Nat.reduceAdd, Nat.reduceMul, Nat.reduceLeDiff, Nat.reduceSub, Nat.reduceBEq, Int.reduceEq, Int.reduceLT, Int.reduceLE, Int.reduceToNat, Int.reduceAdd, Int.reduceSub, Int.reduceNeg, UInt8.reduceToNat]
    refine e_ifd E' (fun h2 => ?_) (fun h2 => ?_) <;> simp only [go_sem, Nat.reduceEqDiff, Nat.reduceLT, ↓reduceIte, Nat.reduceAdd, Nat.reduceMul, Nat.reduceLeDiff, Nat.reduceSub, Nat.reduceBEq, Int.reduceEq, Int.reduceLT, Int.reduceLE, Int.reduceToNat, Int.reduceAdd, Int.reduceSub, Int.reduceNeg, UInt8.reduceToNat]
    · rw [nd_not hi' h2]
    · refine ⟨⟨i + 1, by omega, nd_step hi' hn h2⟩, by show l.length - (i + 1) < _; omega, by rw [w64_in ⟨by omega, by omega⟩]; rfl⟩
  · have hil : i = l.length := by omega
    subst hil
    rw [List.take_length] at hn
    simp [twice, hn]
end Go.Proofs.YtmplpdjddjiioaaDoor
