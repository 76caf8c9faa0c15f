/-
  A spot's children, walked; a slice of spots turned about.
-/
import Derived.Test.YtmplpdjddjiioaaX1
set_option linter.all false
namespace Go.Proofs.Ytmplpdjddjiioaa
open Go.Ab
theorem kidsL_len {n : TN} (h : n.l.length ≤ 1000000) : (kidsL n).length ≤ 1000000 := by
  unfold kidsL
  split
  · simp
  · split <;> simp
    omega
theorem getD_of {l : List Int} {i : Nat} (h : i < l.length) : l[i] = l.getD i 0 := by simp [h]
theorem f23_ok {G} (ns : List TN) (root : Int) (x : Nat) (side : Int) (hx : x < ns.length) (hfl : ∀ n ∈ ns, n.l.length ≤ 1000000) :
    HCall Try.prog G 23 [.d (typeS ns root), .d (.agg [i64 x, i64 side])] [] [] (fun r hp' => r = .vw [0] 0 (kidsN (nd ns x) side).length ∧ hp' = [([0], .arr (some 2) ((kidsN (nd ns x) side).map spotD))]) := by
  have hin : nd ns x ∈ ns := by rw [nd_eq hx]; exact List.getElem_mem hx
  have hkl := kidsL_len (hfl _ hin)
  unfold typeS
  refine funO_ok Try.func23 rfl (by decide +kernel) (by simp [Try.ntmps23]) (veil fun E => ?_)
  simp only [go_sem, Nat.reduceEqDiff, Nat.reduceLT, ↓reduceIte, Nat.reduceAdd, Nat.reduceMul, Nat.reduceLeDiff, Nat.reduceSub, Nat.reduceBEq, Int.reduceEq, Int.reduceLT, Int.reduceLE, Int.reduceToNat, Int.reduceAdd, Int.reduceSub, Int.reduceNeg, UInt8.reduceToNat]
  refine ⟨⟨by omega, by omega⟩, ?_⟩
  rw [nodes_nd hx]
  simp only [go_sem, Nat.reduceEqDiff, Nat.reduceLT, ↓reduceIte, Nat.reduceAdd, Nat.reduceMul, Nat.reduceLeDiff, Nat.reduceSub, Nat.reduceBEq, Int.reduceEq, Int.reduceLT, Int.reduceLE, Int.reduceToNat, Int.reduceAdd, Int.reduceSub, Int.reduceNeg, UInt8.reduceToNat]
  refine e_call E (f37_ok (nd ns x) (hfl _ hin)) rfl rfl (by simp) ?_
  rintro _ rfl
  simp only [go_sem, Nat.reduceEqDiff, Nat.reduceLT, ↓reduceIte, Nat.reduceAdd, Nat.reduceMul, Nat.reduceLeDiff, Nat.reduceSub, Nat.reduceBEq, Int.reduceEq, Int.reduceLT, Int.reduceLE, Int.reduceToNat, Int.reduceAdd, Int.reduceSub, Int.reduceNeg, UInt8.reduceToNat]
  unfold intsD
  simp only [go_sem, Nat.reduceEqDiff, Nat.reduceLT, ↓reduceIte, Nat.reduceAdd, Nat.reduceMul, Nat.reduceLeDiff, Nat.reduceSub, Nat.reduceBEq, Int.reduceEq, Int.reduceLT, Int.reduceLE, Int.reduceToNat, Int.reduceAdd, Int.reduceSub, Int.reduceNeg, UInt8.reduceToNat]
  refine c_frB E [2] (.agg [.sl (some 4) (ns.map nodeD), i64 root]) rfl rfl ?_
  simp only [go_sem, Nat.reduceEqDiff, Nat.reduceLT, ↓reduceIte, Nat.reduceAdd, Nat.reduceMul, Nat.reduceLeDiff, Nat.reduceSub, Nat.reduceBEq, Int.reduceEq, Int.reduceLT, Int.reduceLE, Int.reduceToNat, Int.reduceAdd, Int.reduceSub, Int.reduceNeg, UInt8.reduceToNat]
  refine c_frB E [3] (.agg [i64 x, i64 side]) rfl rfl ?_
  simp only [go_sem, Nat.reduceEqDiff, Nat.reduceLT, ↓reduceIte, Nat.reduceAdd, Nat.reduceMul, Nat.reduceLeDiff, Nat.reduceSub, Nat.reduceBEq, Int.reduceEq, Int.reduceLT, Int.reduceLE, Int.reduceToNat, Int.reduceAdd, Int.reduceSub, Int.reduceNeg, UInt8.reduceToNat]
  refine c_frB E [5] (.agg [i64 (nd ns x).k, i64 (nd ns x).a, i64 (nd ns x).b, .sl (some 2) ((nd ns x).l.map fldD)]) rfl rfl ?_
  simp only [go_sem, Nat.reduceEqDiff, Nat.reduceLT, ↓reduceIte, Nat.reduceAdd, Nat.reduceMul, Nat.reduceLeDiff, Nat.reduceSub, Nat.reduceBEq, Int.reduceEq, Int.reduceLT, Int.reduceLE, Int.reduceToNat, Int.reduceAdd, Int.reduceSub, Int.reduceNeg, UInt8.reduceToNat]
  refine c_thaw E 6 99 (some 2) rfl (by rw [mk_used]; decide) ?_
  simp only [go_sem, Nat.reduceEqDiff, Nat.reduceLT, ↓reduceIte, Nat.reduceAdd, Nat.reduceMul, Nat.reduceLeDiff, Nat.reduceSub, Nat.reduceBEq, Int.reduceEq, Int.reduceLT, Int.reduceLE, Int.reduceToNat, Int.reduceAdd, Int.reduceSub, Int.reduceNeg, UInt8.reduceToNat]
  have hlen : (kidsN (nd ns x) side).length = (kidsL (nd ns x)).length := by simp [kidsN]
  refine loopT_e E (X := { i : Nat // i ≤ (kidsL (nd ns x)).length }) (fun y => [(3, .d (.ptr (.agg [i64 x, i64 side]))), (5, .d (.ptr (.agg [i64 (nd ns x).k, i64 (nd ns x).a, i64 (nd ns x).b, .sl (some 2) ((nd ns x).l.map fldD)]))), (6, .vw [99] 0 y.1), (17, .d (.sl none ((kidsL (nd ns x)).map i64))), (18, .d (i64 (kidsL (nd ns x)).length)), (19, .d (i64 y.1))]) (fun y => [([99], .arr (some 2) (((kidsN (nd ns x) side).take y.1).map spotD))]) [99] (fun y => (kidsL (nd ns x)).length - y.1) ⟨0, Nat.zero_le _⟩ id ?_ ?_
  · simp only [go_sem, Nat.reduceEqDiff, Nat.reduceLT, ↓reduceIte, Nat.reduceAdd, Nat.reduceMul, Nat.reduceLeDiff, Nat.reduceSub, Nat.reduceBEq, Int.reduceEq, Int.reduceLT, Int.reduceLE, Int.reduceToNat, Int.reduceAdd, Int.reduceSub, Int.reduceNeg, UInt8.reduceToNat]
    all_goals rfl
  rintro ⟨i, hi⟩ E'
  simp only [go_sem, Nat.reduceEqDiff, Nat.reduceLT, ↓reduceIte, Nat.reduceAdd, Nat.reduceMul, Nat.reduceLeDiff, Nat.reduceSub, Nat.reduceBEq, Int.reduceEq, Int.reduceLT, Int.reduceLE, Int.reduceToNat, Int.reduceAdd, Int.reduceSub, Int.reduceNeg, UInt8.reduceToNat]
  refine e_ifd E' (fun h1 => ?_) (fun h1 => ?_) <;> simp only [go_sem, Nat.reduceEqDiff, Nat.reduceLT, ↓reduceIte, Nat.reduceAdd, Nat.reduceMul, Nat.reduceLeDiff, Nat.reduceSub, Nat.reduceBEq, Int.reduceEq, Int.reduceLT, Int.reduceLE, Int.reduceToNat, Int.reduceAdd, Int.reduceSub, Int.reduceNeg, UInt8.reduceToNat]
  · have h1' : i < (kidsL (nd ns x)).length := by omega
    refine ⟨⟨by omega, by omega⟩, ?_⟩
    rw [ints_get h1', getD_of h1']
    simp only [go_sem, Nat.reduceEqDiff, Nat.reduceLT, ↓reduceIte, Nat.reduceAdd, Nat.reduceMul, Nat.reduceLeDiff, Nat.reduceSub, Nat.reduceBEq, Int.reduceEq, Int.reduceLT, Int.reduceLE, Int.reduceToNat, Int.reduceAdd, Int.reduceSub, Int.reduceNeg, UInt8.reduceToNat]
    repeat (first
      | (apply e_gm E'; (· simp only [go_sem, Nat.reduceEqDiff, Nat.reduceLT, ↓reduceIte, Nat.reduceAdd, Nat.reduceMul, Nat.reduceLeDiff, Nat.reduceSub, Nat.reduceBEq, Int.reduceEq, Int.reduceLT, Int.reduceLE, Int.reduceToNat, Int.reduceAdd, Int.reduceSub, Int.reduceNeg, UInt8.reduceToNat]); (· intro h; (try simp only [Bool.and_eq_true, Bool.not_eq_true', Bool.not_eq_false'] at h); simp only [↓h, go_sem, Nat.reduceEqDiff, Nat.reduceLT, ↓reduceIte, Nat.reduceAdd, Nat.reduceMul, Nat.reduceLeDiff, Nat.reduceSub, Nat.reduceBEq, Int.reduceEq, Int.reduceLT, Int.reduceLE, Int.reduceToNat, Int.reduceAdd, Int.reduceSub, Int.reduceNeg, UInt8.reduceToNat]; rfl); simp only [go_sem, Nat.reduceEqDiff, Nat.reduceLT, ↓reduceIte, Nat.reduceAdd, Nat.reduceMul, Nat.reduceLeDiff, Nat.reduceSub, Nat.reduceBEq, Int.reduceEq, Int.reduceLT, Int.reduceLE, Int.reduceToNat, Int.reduceAdd, Int.reduceSub, Int.reduceNeg, UInt8.reduceToNat])
      | (apply e_gpk E'; (· simp only [go_sem, Nat.reduceEqDiff, Nat.reduceLT, ↓reduceIte, Nat.reduceAdd, Nat.reduceMul, Nat.reduceLeDiff, Nat.reduceSub, Nat.reduceBEq, Int.reduceEq, Int.reduceLT, Int.reduceLE, Int.reduceToNat, Int.reduceAdd, Int.reduceSub, Int.reduceNeg, UInt8.reduceToNat]); (· intro h; (try simp only [Bool.and_eq_true, Bool.not_eq_true', Bool.not_eq_false'] at h); simp only [↓h, go_sem, Nat.reduceEqDiff, Nat.reduceLT, ↓reduceIte, Nat.reduceAdd, Nat.reduceMul, Nat.reduceLeDiff, Nat.reduceSub, Nat.reduceBEq, Int.reduceEq, Int.reduceLT, Int.reduceLE, Int.reduceToNat, Int.reduceAdd, Int.reduceSub, Int.reduceNeg, UInt8.reduceToNat]; rfl); (· intro h; (try simp only [Bool.and_eq_true, Bool.not_eq_true', Bool.not_eq_false'] at h); simp only [↓h, go_sem, Nat.reduceEqDiff, Nat.reduceLT, ↓reduceIte, Nat.reduceAdd, Nat.reduceMul, Nat.reduceLeDiff, Nat.reduceSub, Nat.reduceBEq, Int.reduceEq, Int.reduceLT, Int.reduceLE, Int.reduceToNat, Int.reduceAdd, Int.reduceSub, Int.reduceNeg, UInt8.reduceToNat]; rfl); simp only [go_sem, Nat.reduceEqDiff, Nat.reduceLT, ↓reduceIte, Nat.reduceAdd, Nat.reduceMul, Nat.reduceLeDiff, Nat.reduceSub, Nat.reduceBEq, Int.reduceEq, Int.reduceLT, Int.reduceLE, Int.reduceToNat, Int.reduceAdd, Int.reduceSub, Int.reduceNeg, UInt8.reduceToNat])
      | (apply e_gm2 E'; (· simp only [go_sem, Nat.reduceEqDiff, Nat.reduceLT, ↓reduceIte, Nat.reduceAdd, Nat.reduceMul, Nat.reduceLeDiff, Nat.reduceSub, Nat.reduceBEq, Int.reduceEq, Int.reduceLT, Int.reduceLE, Int.reduceToNat, Int.reduceAdd, Int.reduceSub, Int.reduceNeg, UInt8.reduceToNat]); (· rfl); (· intro h h'; (try simp only [Bool.and_eq_true, Bool.not_eq_true', Bool.not_eq_false'] at h h'); simp only [↓h, ↓h', go_sem, Nat.reduceEqDiff, Nat.reduceLT, ↓reduceIte, Nat.reduceAdd, Nat.reduceMul, Nat.reduceLeDiff, Nat.reduceSub, Nat.reduceBEq, Int.reduceEq, Int.reduceLT, Int.reduceLE, Int.reduceToNat, Int.reduceAdd, Int.reduceSub, Int.reduceNeg, UInt8.reduceToNat]; rfl); simp only [go_sem, Nat.reduceEqDiff, Nat.reduceLT, ↓reduceIte, Nat.reduceAdd, Nat.reduceMul, Nat.reduceLeDiff, Nat.reduceSub, Nat.reduceBEq, Int.reduceEq, Int.reduceLT, Int.reduceLE, Int.reduceToNat, Int.reduceAdd, Int.reduceSub, Int.reduceNeg, UInt8.reduceToNat])
      | (apply e_gpk2 E'; (· simp only [go_sem, Nat.reduceEqDiff, Nat.reduceLT, ↓reduceIte, Nat.reduceAdd, Nat.reduceMul, Nat.reduceLeDiff, Nat.reduceSub, Nat.reduceBEq, Int.reduceEq, Int.reduceLT, Int.reduceLE, Int.reduceToNat, Int.reduceAdd, Int.reduceSub, Int.reduceNeg, UInt8.reduceToNat]); (· rfl); (· intro h h'; (try simp only [Bool.and_eq_true, Bool.not_eq_true', Bool.not_eq_false'] at h h'); simp only [↓h, ↓h', go_sem, Nat.reduceEqDiff, Nat.reduceLT, ↓reduceIte, Nat.reduceAdd, Nat.reduceMul, Nat.reduceLeDiff, Nat.reduceSub, Nat.reduceBEq, Int.reduceEq, Int.reduceLT, Int.reduceLE, Int.reduceToNat, Int.reduceAdd, Int.reduceSub, Int.reduceNeg, UInt8.reduceToNat]; rfl); (· intro h h'; (try simp only [Bool.and_eq_true, Bool.not_eq_true', Bool.not_eq_false'] at h h'); simp only [↓h, ↓h', go_sem, Nat.reduceEqDiff, Nat.reduceLT, ↓reduceIte, Nat.reduceAdd, Nat.reduceMul, Nat.reduceLeDiff, Nat.reduceSub, Nat.reduceBEq, Int.reduceEq, Int.reduceLT, Int.reduceLE, Int.reduceToNat, Int.reduceAdd, Int.reduceSub, Int.reduceNeg, UInt8.reduceToNat]; rfl); simp only [go_sem, Nat.reduceEqDiff, Nat.reduceLT, ↓reduceIte, Nat.reduceAdd, Nat.reduceMul, Nat.reduceLeDiff, Nat.reduceSub, Nat.reduceBEq, Int.reduceEq, Int.reduceLT, Int.reduceLE, Int.reduceToNat, Int.reduceAdd, Int.reduceSub, Int.reduceNeg, UInt8.reduceToNat])
      | (apply e_pk E'; (· decide); simp only [go_sem, Nat.reduceEqDiff, Nat.reduceLT, ↓reduceIte, Nat.reduceAdd, Nat.reduceMul, Nat.reduceLeDiff, Nat.reduceSub, Nat.reduceBEq, Int.reduceEq, Int.reduceLT, Int.reduceLE, Int.reduceToNat, Int.reduceAdd, Int.reduceSub, Int.reduceNeg, UInt8.reduceToNat]))
    have hkt := kidsN_take (side := side) h1'
    have hi0 : decide ((i : Int) = 0) = decide (i = 0) := decide_eq_decide.2 (by omega)
    rw [hi0]
    refine e_if E' (fun h2 => ?_) (fun h2 => ?_) <;> simp only [go_sem, Nat.reduceEqDiff, Nat.reduceLT, ↓reduceIte, Nat.reduceAdd, Nat.reduceMul, Nat.reduceLeDiff, Nat.reduceSub, Nat.reduceBEq, Int.reduceEq, Int.reduceLT, Int.reduceLE, Int.reduceToNat, Int.reduceAdd, Int.reduceSub, Int.reduceNeg, UInt8.reduceToNat]
    · refine e_call E' (f17_ok side) rfl rfl (by simp) ?_
      rintro _ rfl
      simp only [go_sem, Nat.reduceEqDiff, Nat.reduceLT, ↓reduceIte, Nat.reduceAdd, Nat.reduceMul, Nat.reduceLeDiff, Nat.reduceSub, Nat.reduceBEq, Int.reduceEq, Int.reduceLT, Int.reduceLE, Int.reduceToNat, Int.reduceAdd, Int.reduceSub, Int.reduceNeg, UInt8.reduceToNat]
      refine ⟨by omega, ⟨i + 1, by omega⟩, by show (kidsL (nd ns x)).length - (i + 1) < _; omega, tau [([99], [40])], ?_⟩
      simp only [go_sem, Nat.reduceEqDiff, Nat.reduceLT, ↓reduceIte, Nat.reduceAdd, Nat.reduceMul, Nat.reduceLeDiff, Nat.reduceSub, Nat.reduceBEq, Int.reduceEq, Int.reduceLT, Int.reduceLE, Int.reduceToNat, Int.reduceAdd, Int.reduceSub, Int.reduceNeg, UInt8.reduceToNat]
      refine ⟨by rw [w64_in ⟨by omega, by omega⟩]; rfl, ?_⟩
      rw [List.take_of_length_le (by simp; omega), ← hkt]
      simp only [kidS, h2, if_true, spotD]
    · refine ⟨by omega, ⟨i + 1, by omega⟩, by show (kidsL (nd ns x)).length - (i + 1) < _; omega, tau [([99], [40])], ?_⟩
      simp only [go_sem, Nat.reduceEqDiff, Nat.reduceLT, ↓reduceIte, Nat.reduceAdd, Nat.reduceMul, Nat.reduceLeDiff, Nat.reduceSub, Nat.reduceBEq, Int.reduceEq, Int.reduceLT, Int.reduceLE, Int.reduceToNat, Int.reduceAdd, Int.reduceSub, Int.reduceNeg, UInt8.reduceToNat]
      refine ⟨by rw [w64_in ⟨by omega, by omega⟩]; rfl, ?_⟩
      rw [List.take_of_length_le (by simp; omega), ← hkt]
      simp only [kidS, h2, Bool.false_eq_true, if_false, spotD]
  · have h3 : i = (kidsL (nd ns x)).length := by omega
    subst h3
    refine ⟨_, _, [0], tau [([0], [99])], ⟨rfl, rfl⟩, ?_⟩
    simp only [go_sem, Nat.reduceEqDiff, Nat.reduceLT, ↓reduceIte, Nat.reduceAdd, Nat.reduceMul, Nat.reduceLeDiff, Nat.reduceSub, Nat.reduceBEq, Int.reduceEq, Int.reduceLT, Int.reduceLE, Int.reduceToNat, Int.reduceAdd, Int.reduceSub, Int.reduceNeg, UInt8.reduceToNat]
    rw [hlen, List.take_of_length_le (by omega)]
    exact ⟨rfl, rfl⟩
/-- A list, turned about as far as so many of both ends. -/
def revS (l : List Spot) (i : Nat) : List Spot := (List.range l.length).map fun q => l.getD (if q < i ∨ l.length ≤ q + i then l.length - 1 - q else q) (0, 0)
theorem revS_len (l : List Spot) (i : Nat) : (revS l i).length = l.length := by simp [revS]
theorem revS_get {l : List Spot} {i q : Nat} (h : q < l.length) : (revS l i).getD q (0, 0) = l.getD (if q < i ∨ l.length ≤ q + i then l.length - 1 - q else q) (0, 0) := by
  simp [revS, h]
theorem revS_zero (l : List Spot) : revS l 0 = l := by
  refine List.ext_getElem (by simp [revS]) fun q h1 h2 => ?_
  have : ¬ l.length ≤ q := by omega
  simp [revS, h2, this]
theorem revS_end {l : List Spot} {i : Nat} (h : l.length ≤ 2 * i + 1) : revS l i = l.reverse := by
  refine List.ext_getElem (by simp [revS]) fun q h1 h2 => ?_
  have h2' : q < l.length := by simpa using h2
  have h3 : l.length - 1 - q < l.length := by omega
  by_cases e : q < i ∨ l.length ≤ q + i
  · simp [revS, e, h3]
  · have : l.length - 1 - q = q := by omega
    simp [revS, e, h2', this]
theorem revS_step {l : List Spot} {i : Nat} (h : 2 * i + 1 < l.length) : ((revS l i).set i (l.getD (l.length - 1 - i) (0, 0))).set (l.length - 1 - i) (l.getD i (0, 0)) = revS l (i + 1) := by
  refine List.ext_getElem (by simp [revS]) fun q h1 h2 => ?_
  have h2' : q < l.length := by simpa [revS] using h2
  simp only [List.getElem_set]
  by_cases e1 : l.length - 1 - i = q
  · subst e1
    have : l.length - 1 - i < i + 1 ∨ l.length ≤ l.length - 1 - i + (i + 1) := by omega
    have e2 : l.length - 1 - (l.length - 1 - i) = i := by omega
    simp [revS, this, e2]
  · rw [if_neg e1]
    by_cases e2 : i = q
    · subst e2
      have : i < i + 1 ∨ l.length ≤ i + (i + 1) := by omega
      simp [revS, this]
    · rw [if_neg e2]
      have : (q < i + 1 ∨ l.length ≤ q + (i + 1)) ↔ (q < i ∨ l.length ≤ q + i) := by omega
      simp [revS, this]
theorem f36_ok {G} (l : List Spot) (hl : l.length ≤ 1000000) : HCall Try.prog G 36 [.vw [38, 0] 0 l.length] [([38, 0], .arr (some 2) (l.map spotD))] [38] (fun r hp' => r = .tup [] ∧ hp' = [([38, 0], .arr (some 2) (l.reverse.map spotD))]) := by
  refine funO_ok Try.func36 rfl (by decide +kernel) (by simp [Try.ntmps36]) (veil fun E => ?_)
  simp only [go_sem, Nat.reduceEqDiff, Nat.reduceLT, ↓reduceIte, Nat.reduceAdd, Nat.reduceMul, Nat.reduceLeDiff, Nat.reduceSub, Nat.reduceBEq, Int.reduceEq, Int.reduceLT, Int.reduceLE, Int.reduceToNat, Int.reduceAdd, Int.reduceSub, Int.reduceNeg, UInt8.reduceToNat]
  refine loopO_e E (X := { i : Nat // i ≤ l.length }) (fun x => [(0, .vw [38, 0] 0 l.length), (2, .d (i64 x.1)), (3, .d (i64 ((l.length : Int) - 1 - x.1)))]) (fun x => [([38, 0], .arr (some 2) ((revS l x.1).map spotD))]) [38] (fun x => l.length - x.1) ⟨0, Nat.zero_le _⟩ ?_ ?_
  · simp only [go_sem, Nat.reduceEqDiff, Nat.reduceLT, ↓reduceIte, Nat.reduceAdd, Nat.reduceMul, Nat.reduceLeDiff, Nat.reduceSub, Nat.reduceBEq, Int.reduceEq, Int.reduceLT, Int.reduceLE, Int.reduceToNat, Int.reduceAdd, Int.reduceSub, Int.reduceNeg, UInt8.reduceToNat]
    rw [w64_in ⟨by omega, by omega⟩, revS_zero]
    exact ⟨congrArg (fun z => AV.d (i64 z)) (by omega), rfl⟩
  rintro ⟨i, hi⟩ E'
  simp only [go_sem, Nat.reduceEqDiff, Nat.reduceLT, ↓reduceIte, Nat.reduceAdd, Nat.reduceMul, Nat.reduceLeDiff, Nat.reduceSub, Nat.reduceBEq, Int.reduceEq, Int.reduceLT, Int.reduceLE, Int.reduceToNat, Int.reduceAdd, Int.reduceSub, Int.reduceNeg, UInt8.reduceToNat]
  refine e_ifd E' (fun h1 => ?_) (fun h1 => ?_) <;> simp only [go_sem, Nat.reduceEqDiff, Nat.reduceLT, ↓reduceIte, Nat.reduceAdd, Nat.reduceMul, Nat.reduceLeDiff, Nat.reduceSub, Nat.reduceBEq, Int.reduceEq, Int.reduceLT, Int.reduceLE, Int.reduceToNat, Int.reduceAdd, Int.reduceSub, Int.reduceNeg, UInt8.reduceToNat]
  · obtain ⟨j, hj⟩ : ∃ j : Nat, j = l.length - 1 - i := ⟨_, rfl⟩
    have hj' : (l.length : Int) - 1 - i = (j : Int) := by omega
    rw [hj']
    refine region_xv mixed E' fun X => ?_
    simp only [go_sem, Nat.reduceEqDiff, Nat.reduceLT, ↓reduceIte, Nat.reduceAdd, Nat.reduceMul, Nat.reduceLeDiff, Nat.reduceSub, Nat.reduceBEq, Int.reduceEq, Int.reduceLT, Int.reduceLE, Int.reduceToNat, Int.reduceAdd, Int.reduceSub, Int.reduceNeg, UInt8.reduceToNat]
    have hjl : j < (revS l i).length := by rw [revS_len]; omega
    have hil : i < (revS l i).length := by rw [revS_len]; omega
    refine ⟨⟨by omega, by omega⟩, ?_⟩
    rw [spot_get hjl]
    simp only [go_sem, Nat.reduceEqDiff, Nat.reduceLT, ↓reduceIte, Nat.reduceAdd, Nat.reduceMul, Nat.reduceLeDiff, Nat.reduceSub, Nat.reduceBEq, Int.reduceEq, Int.reduceLT, Int.reduceLE, Int.reduceToNat, Int.reduceAdd, Int.reduceSub, Int.reduceNeg, UInt8.reduceToNat]
    refine ⟨⟨by omega, by omega⟩, ?_⟩
    rw [spot_get hil]
    simp only [go_sem, Nat.reduceEqDiff, Nat.reduceLT, ↓reduceIte, Nat.reduceAdd, Nat.reduceMul, Nat.reduceLeDiff, Nat.reduceSub, Nat.reduceBEq, Int.reduceEq, Int.reduceLT, Int.reduceLE, Int.reduceToNat, Int.reduceAdd, Int.reduceSub, Int.reduceNeg, UInt8.reduceToNat]
    have hji : (revS l i).getD j (0, 0) = l.getD j (0, 0) := by
      rw [revS_get (by omega)]
      rw [if_neg (by omega)]
    have hii : (revS l i).getD i (0, 0) = l.getD i (0, 0) := by
      rw [revS_get (by omega)]
      rw [if_neg (by omega)]
    have hst := revS_step (l := l) (i := i) (by omega)
    rw [← hj] at hst
    refine ⟨⟨by omega, by omega⟩, ⟨by omega, by omega⟩, by decide +kernel, ⟨i + 1, by omega⟩, by show l.length - (i + 1) < _; omega, ⟨by rw [w64_in ⟨by omega, by omega⟩]; rfl, ?_⟩, ?_⟩
    · rw [w64_in ⟨by omega, by omega⟩]
      exact congrArg (fun z => AV.d (i64 z)) (by show (j : Int) - 1 = (l.length : Int) - 1 - ((i + 1 : Nat) : Int); omega)
    · rw [hji, hii]
      show some (Ob.arr (some 2) (((List.map spotD (revS l i)).set i (spotD (l.getD j (0, 0)))).set j (spotD (l.getD i (0, 0))))) = some (Ob.arr (some 2) (List.map spotD (revS l (i + 1))))
      rw [← hst, List.map_set, List.map_set]
  · refine ⟨_, _, [38], id, ⟨rfl, rfl⟩, ?_⟩
    simp only [go_sem, Nat.reduceEqDiff, Nat.reduceLT, ↓reduceIte, Nat.reduceAdd, Nat.reduceMul, Nat.reduceLeDiff, Nat.reduceSub, Nat.reduceBEq, Int.reduceEq, Int.reduceLT, Int.reduceLE, Int.reduceToNat, Int.reduceAdd, Int.reduceSub, Int.reduceNeg, UInt8.reduceToNat]
    rw [revS_end (by omega)]
end Go.Proofs.Ytmplpdjddjiioaa
