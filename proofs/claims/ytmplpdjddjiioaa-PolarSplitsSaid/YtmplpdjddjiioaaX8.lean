/-
  A node with other children; a type in order: the document's answers.
-/
import Derived.Test.YtmplpdjddjiioaaX7
set_option linter.all false
namespace Go.Proofs.Ytmplpdjddjiioaa
open Go.Ab
def wfld (n : TN) (K : List Int) (i : Nat) : Fld := (fnm n.l i, K.getD i 0)
def wflds (n : TN) (K : List Int) (j : Nat) : List Fld := (List.range j).map (wfld n K)
def withN (n : TN) (K : List Int) : TN := { k := n.k, a := if pairZ n.k then K.getD 0 0 else if n.k = 11 then n.a else 0, b := if pairZ n.k then K.getD 1 0 else 0, l := wflds n K n.l.length }
theorem wflds_step (n : TN) (K : List Int) (j : Nat) : (wflds n K j).map fldD ++ [.agg [.str (fnm n.l j), i64 (K.getD j 0)]] = (wflds n K (j + 1)).map fldD := by
  simp [wflds, List.range_succ, wfld, fldD]
theorem ints_getD {l : List Int} {i : Nat} (h : i < l.length) : (l.map i64).getD i .nilp = i64 (l.getD i 0) := by simp [h]
set_option maxHeartbeats 1000000 in
theorem f41_ok {G} (n : TN) (K : List Int) (_hl : n.l.length ≤ 1000000) (hK : K.length ≤ 1000000) (h2 : pairZ n.k = true → 2 ≤ K.length) (hw : n.l.length ≤ K.length) : HP Try.prog G 41 [nodeD n, intsD K] (fun r => r = .d (nodeD (withN n K))) := by
  unfold nodeD fldsD intsD
  refine funZ_ok Try.func41 rfl (by decide +kernel) (by simp [Try.ntmps41]) (veil fun E => ?_)
  simp only [go_sem, Nat.reduceEqDiff, Nat.reduceLT, ↓reduceIte, Nat.reduceAdd, Nat.reduceMul, Nat.reduceLeDiff, Nat.reduceSub, Nat.reduceBEq, Int.reduceEq, Int.reduceLT, Int.reduceLE, Int.reduceToNat, Int.reduceAdd, Int.reduceSub, Int.reduceNeg, UInt8.reduceToNat]
  refine e_ifd E (fun h11 => ?_) (fun h11 => ?_) <;> simp only [go_sem, Nat.reduceEqDiff, Nat.reduceLT, ↓reduceIte, Nat.reduceAdd, Nat.reduceMul, Nat.reduceLeDiff, Nat.reduceSub, Nat.reduceBEq, Int.reduceEq, Int.reduceLT, Int.reduceLE, Int.reduceToNat, Int.reduceAdd, Int.reduceSub, Int.reduceNeg, UInt8.reduceToNat]
  · have hp : pairZ n.k = false := by simp [pairZ, h11]
    have hA : (if pairZ n.k then K.getD 0 0 else if n.k = 11 then n.a else 0) = n.a := by rw [hp]; simp [h11]
    have hB : (if pairZ n.k then K.getD 1 0 else 0) = 0 := by rw [hp]; simp
    repeat (first
      | (apply e_gm E; (· simp only [go_sem, Nat.reduceEqDiff, Nat.reduceLT, ↓reduceIte, Nat.reduceAdd, Nat.reduceMul, Nat.reduceLeDiff, Nat.reduceSub, Nat.reduceBEq, Int.reduceEq, Int.reduceLT, Int.reduceLE, Int.reduceToNat, Int.reduceAdd, Int.reduceSub, Int.reduceNeg, UInt8.reduceToNat]); (· intro h; (try simp only [Bool.and_eq_true, Bool.not_eq_true', Bool.not_eq_false'] at h); simp only [↓h, go_sem, Nat.reduceEqDiff, Nat.reduceLT, ↓reduceIte, Nat.reduceAdd, Nat.reduceMul, Nat.reduceLeDiff, Nat.reduceSub, Nat.reduceBEq, Int.reduceEq, Int.reduceLT, Int.reduceLE, Int.reduceToNat, Int.reduceAdd, Int.reduceSub, Int.reduceNeg, UInt8.reduceToNat]; rfl); simp only [go_sem, Nat.reduceEqDiff, Nat.reduceLT, ↓reduceIte, Nat.reduceAdd, Nat.reduceMul, Nat.reduceLeDiff, Nat.reduceSub, Nat.reduceBEq, Int.reduceEq, Int.reduceLT, Int.reduceLE, Int.reduceToNat, Int.reduceAdd, Int.reduceSub, Int.reduceNeg, UInt8.reduceToNat])
      | (apply e_gpk E; (· simp only [go_sem, Nat.reduceEqDiff, Nat.reduceLT, ↓reduceIte, Nat.reduceAdd, Nat.reduceMul, Nat.reduceLeDiff, Nat.reduceSub, Nat.reduceBEq, Int.reduceEq, Int.reduceLT, Int.reduceLE, Int.reduceToNat, Int.reduceAdd, Int.reduceSub, Int.reduceNeg, UInt8.reduceToNat]); (· intro h; (try simp only [Bool.and_eq_true, Bool.not_eq_true', Bool.not_eq_false'] at h); simp only [↓h, go_sem, Nat.reduceEqDiff, Nat.reduceLT, ↓reduceIte, Nat.reduceAdd, Nat.reduceMul, Nat.reduceLeDiff, Nat.reduceSub, Nat.reduceBEq, Int.reduceEq, Int.reduceLT, Int.reduceLE, Int.reduceToNat, Int.reduceAdd, Int.reduceSub, Int.reduceNeg, UInt8.reduceToNat]; rfl); (· intro h; (try simp only [Bool.and_eq_true, Bool.not_eq_true', Bool.not_eq_false'] at h); simp only [↓h, go_sem, Nat.reduceEqDiff, Nat.reduceLT, ↓reduceIte, Nat.reduceAdd, Nat.reduceMul, Nat.reduceLeDiff, Nat.reduceSub, Nat.reduceBEq, Int.reduceEq, Int.reduceLT, Int.reduceLE, Int.reduceToNat, Int.reduceAdd, Int.reduceSub, Int.reduceNeg, UInt8.reduceToNat]; rfl); simp only [go_sem, Nat.reduceEqDiff, Nat.reduceLT, ↓reduceIte, Nat.reduceAdd, Nat.reduceMul, Nat.reduceLeDiff, Nat.reduceSub, Nat.reduceBEq, Int.reduceEq, Int.reduceLT, Int.reduceLE, Int.reduceToNat, Int.reduceAdd, Int.reduceSub, Int.reduceNeg, UInt8.reduceToNat])
      | (apply e_gm2 E; (· simp only [go_sem, Nat.reduceEqDiff, Nat.reduceLT, ↓reduceIte, Nat.reduceAdd, Nat.reduceMul, Nat.reduceLeDiff, Nat.reduceSub, Nat.reduceBEq, Int.reduceEq, Int.reduceLT, Int.reduceLE, Int.reduceToNat, Int.reduceAdd, Int.reduceSub, Int.reduceNeg, UInt8.reduceToNat]); (· rfl); (· intro h h'; (try simp only [Bool.and_eq_true, Bool.not_eq_true', Bool.not_eq_false'] at h h'); simp only [↓h, ↓h', go_sem, Nat.reduceEqDiff, Nat.reduceLT, ↓reduceIte, Nat.reduceAdd, Nat.reduceMul, Nat.reduceLeDiff, Nat.reduceSub, Nat.reduceBEq, Int.reduceEq, Int.reduceLT, Int.reduceLE, Int.reduceToNat, Int.reduceAdd, Int.reduceSub, Int.reduceNeg, UInt8.reduceToNat]; rfl); simp only [go_sem, Nat.reduceEqDiff, Nat.reduceLT, ↓reduceIte, Nat.reduceAdd, Nat.reduceMul, Nat.reduceLeDiff, Nat.reduceSub, Nat.reduceBEq, Int.reduceEq, Int.reduceLT, Int.reduceLE, Int.reduceToNat, Int.reduceAdd, Int.reduceSub, Int.reduceNeg, UInt8.reduceToNat])
      | (apply e_gpk2 E; (· simp only [go_sem, Nat.reduceEqDiff, Nat.reduceLT, ↓reduceIte, Nat.reduceAdd, Nat.reduceMul, Nat.reduceLeDiff, Nat.reduceSub, Nat.reduceBEq, Int.reduceEq, Int.reduceLT, Int.reduceLE, Int.reduceToNat, Int.reduceAdd, Int.reduceSub, Int.reduceNeg, UInt8.reduceToNat]); (· rfl); (· intro h h'; (try simp only [Bool.and_eq_true, Bool.not_eq_true', Bool.not_eq_false'] at h h'); simp only [↓h, ↓h', go_sem, Nat.reduceEqDiff, Nat.reduceLT, ↓reduceIte, Nat.reduceAdd, Nat.reduceMul, Nat.reduceLeDiff, Nat.reduceSub, Nat.reduceBEq, Int.reduceEq, Int.reduceLT, Int.reduceLE, Int.reduceToNat, Int.reduceAdd, Int.reduceSub, Int.reduceNeg, UInt8.reduceToNat]; rfl); (· intro h h'; (try simp only [Bool.and_eq_true, Bool.not_eq_true', Bool.not_eq_false'] at h h'); simp only [↓h, ↓h', go_sem, Nat.reduceEqDiff, Nat.reduceLT, ↓reduceIte, Nat.reduceAdd, Nat.reduceMul, Nat.reduceLeDiff, Nat.reduceSub, Nat.reduceBEq, Int.reduceEq, Int.reduceLT, Int.reduceLE, Int.reduceToNat, Int.reduceAdd, Int.reduceSub, Int.reduceNeg, UInt8.reduceToNat]; rfl); simp only [go_sem, Nat.reduceEqDiff, Nat.reduceLT, ↓reduceIte, Nat.reduceAdd, Nat.reduceMul, Nat.reduceLeDiff, Nat.reduceSub, Nat.reduceBEq, Int.reduceEq, Int.reduceLT, Int.reduceLE, Int.reduceToNat, Int.reduceAdd, Int.reduceSub, Int.reduceNeg, UInt8.reduceToNat])
      | (apply e_pk E; (· decide); simp only [go_sem, Nat.reduceEqDiff, Nat.reduceLT, ↓reduceIte, Nat.reduceAdd, Nat.reduceMul, Nat.reduceLeDiff, Nat.reduceSub, Nat.reduceBEq, Int.reduceEq, Int.reduceLT, Int.reduceLE, Int.reduceToNat, Int.reduceAdd, Int.reduceSub, Int.reduceNeg, UInt8.reduceToNat]))
    refine e_if E (fun h12 => ?_) (fun h12 => ?_) <;> simp only [go_sem, Nat.reduceEqDiff, Nat.reduceLT, ↓reduceIte, Nat.reduceAdd, Nat.reduceMul, Nat.reduceLeDiff, Nat.reduceSub, Nat.reduceBEq, Int.reduceEq, Int.reduceLT, Int.reduceLE, Int.reduceToNat, Int.reduceAdd, Int.reduceSub, Int.reduceNeg, UInt8.reduceToNat]
    · have : pairZ n.k = true := h12
      rw [hp] at this; cases this
    refine c_frB E [2] (.agg [i64 n.k, i64 n.a, i64 n.b, .sl (some 2) (n.l.map fldD)]) rfl rfl ?_
    simp only [go_sem, Nat.reduceEqDiff, Nat.reduceLT, ↓reduceIte, Nat.reduceAdd, Nat.reduceMul, Nat.reduceLeDiff, Nat.reduceSub, Nat.reduceBEq, Int.reduceEq, Int.reduceLT, Int.reduceLE, Int.reduceToNat, Int.reduceAdd, Int.reduceSub, Int.reduceNeg, UInt8.reduceToNat]
    refine c_thawB E [5] 3 99 (some 2) [.d (i64 n.k), .d (i64 n.a), .d (i64 0), .d .nils] rfl rfl (by rw [mk_used]; decide) ?_
    simp only [go_sem, Nat.reduceEqDiff, Nat.reduceLT, ↓reduceIte, Nat.reduceAdd, Nat.reduceMul, Nat.reduceLeDiff, Nat.reduceSub, Nat.reduceBEq, Int.reduceEq, Int.reduceLT, Int.reduceLE, Int.reduceToNat, Int.reduceAdd, Int.reduceSub, Int.reduceNeg, UInt8.reduceToNat]
    refine loopT_e E (X := { i : Nat // i ≤ n.l.length }) (fun x => [(1, .d (.sl none (K.map i64))), (2, .d (.ptr (.agg [i64 n.k, i64 n.a, i64 n.b, .sl (some 2) (n.l.map fldD)]))), (4, .bx [4] 0), (5, .bx [5] 0), (6, .d (i64 x.1))])
      (fun x => [([4], .box [.d (i64 0), .d (i64 0), .d (i64 0), .d .nils]), ([5], .box [.d (i64 n.k), .d (i64 n.a), .d (i64 0), .vw [99] 0 x.1]), ([99], .arr (some 2) ((wflds n K x.1).map fldD))]) [4, 5, 99] (fun x => n.l.length - x.1) ⟨0, Nat.zero_le _⟩ id ?_ ?_
    · simp only [go_sem, Nat.reduceEqDiff, Nat.reduceLT, ↓reduceIte, Nat.reduceAdd, Nat.reduceMul, Nat.reduceLeDiff, Nat.reduceSub, Nat.reduceBEq, Int.reduceEq, Int.reduceLT, Int.reduceLE, Int.reduceToNat, Int.reduceAdd, Int.reduceSub, Int.reduceNeg, UInt8.reduceToNat]
      all_goals rfl
    rintro ⟨i, hi⟩ E0
    refine hideQ E0 fun Q' hQ E' => ?_
    simp only at hi ⊢
    simp only [go_sem, Nat.reduceEqDiff, Nat.reduceLT, ↓reduceIte, Nat.reduceAdd, Nat.reduceMul, Nat.reduceLeDiff, Nat.reduceSub, Nat.reduceBEq, Int.reduceEq, Int.reduceLT, Int.reduceLE, Int.reduceToNat, Int.reduceAdd, Int.reduceSub, Int.reduceNeg, UInt8.reduceToNat]
    refine e_ifd E' (fun h1 => ?_) (fun h1 => ?_) <;> simp only [go_sem, Nat.reduceEqDiff, Nat.reduceLT, ↓reduceIte, Nat.reduceAdd, Nat.reduceMul, Nat.reduceLeDiff, Nat.reduceSub, Nat.reduceBEq, Int.reduceEq, Int.reduceLT, Int.reduceLE, Int.reduceToNat, Int.reduceAdd, Int.reduceSub, Int.reduceNeg, UInt8.reduceToNat]
    · have h1' : i < n.l.length := by omega
      refine region_xv mixed E' fun X => ?_
      simp only [go_sem, Nat.reduceEqDiff, Nat.reduceLT, ↓reduceIte, Nat.reduceAdd, Nat.reduceMul, Nat.reduceLeDiff, Nat.reduceSub, Nat.reduceBEq, Int.reduceEq, Int.reduceLT, Int.reduceLE, Int.reduceToNat, Int.reduceAdd, Int.reduceSub, Int.reduceNeg, UInt8.reduceToNat]
      refine ⟨⟨by omega, by omega⟩, ?_⟩
      rw [flds_get h1']
      simp only [go_sem, Nat.reduceEqDiff, Nat.reduceLT, ↓reduceIte, Nat.reduceAdd, Nat.reduceMul, Nat.reduceLeDiff, Nat.reduceSub, Nat.reduceBEq, Int.reduceEq, Int.reduceLT, Int.reduceLE, Int.reduceToNat, Int.reduceAdd, Int.reduceSub, Int.reduceNeg, UInt8.reduceToNat]
      refine ⟨⟨by omega, by omega⟩, ?_⟩
      rw [ints_getD (by omega)]
      simp only [go_sem, Nat.reduceEqDiff, Nat.reduceLT, ↓reduceIte, Nat.reduceAdd, Nat.reduceMul, Nat.reduceLeDiff, Nat.reduceSub, Nat.reduceBEq, Int.reduceEq, Int.reduceLT, Int.reduceLE, Int.reduceToNat, Int.reduceAdd, Int.reduceSub, Int.reduceNeg, UInt8.reduceToNat]
      have hln : (wflds n K i).length = i := by simp [wflds]
      refine ⟨by omega, by decide +kernel, ?_⟩
      rw [List.take_of_length_le (by simp [hln]), wflds_step, hQ]
      simp only [go_sem, Nat.reduceEqDiff, Nat.reduceLT, ↓reduceIte, Nat.reduceAdd, Nat.reduceMul, Nat.reduceLeDiff, Nat.reduceSub, Nat.reduceBEq, Int.reduceEq, Int.reduceLT, Int.reduceLE, Int.reduceToNat, Int.reduceAdd, Int.reduceSub, Int.reduceNeg, UInt8.reduceToNat]
      refine ⟨⟨i + 1, by omega⟩, by show n.l.length - (i + 1) < _; omega, tau [([99], [58])], ?_⟩
      simp only [go_sem, Nat.reduceEqDiff, Nat.reduceLT, ↓reduceIte, Nat.reduceAdd, Nat.reduceMul, Nat.reduceLeDiff, Nat.reduceSub, Nat.reduceBEq, Int.reduceEq, Int.reduceLT, Int.reduceLE, Int.reduceToNat, Int.reduceAdd, Int.reduceSub, Int.reduceNeg, UInt8.reduceToNat]
      rw [w64_in ⟨by omega, by omega⟩]
      rfl
    · have h3 : i = n.l.length := by omega
      subst h3
      rw [hQ]
      simp only [go_sem, Nat.reduceEqDiff, Nat.reduceLT, ↓reduceIte, Nat.reduceAdd, Nat.reduceMul, Nat.reduceLeDiff, Nat.reduceSub, Nat.reduceBEq, Int.reduceEq, Int.reduceLT, Int.reduceLE, Int.reduceToNat, Int.reduceAdd, Int.reduceSub, Int.reduceNeg, UInt8.reduceToNat]
      refine ⟨[([99], some 2, (wflds n K n.l.length).map fldD)], ?_⟩
      simp only [go_sem, Nat.reduceEqDiff, Nat.reduceLT, ↓reduceIte, Nat.reduceAdd, Nat.reduceMul, Nat.reduceLeDiff, Nat.reduceSub, Nat.reduceBEq, Int.reduceEq, Int.reduceLT, Int.reduceLE, Int.reduceToNat, Int.reduceAdd, Int.reduceSub, Int.reduceNeg, UInt8.reduceToNat]
      rw [List.take_of_length_le (by simp [wflds]), withN, hA, hB]
  repeat (first
    | (apply e_gm E; (· simp only [go_sem, Nat.reduceEqDiff, Nat.reduceLT, ↓reduceIte, Nat.reduceAdd, Nat.reduceMul, Nat.reduceLeDiff, Nat.reduceSub, Nat.reduceBEq, Int.reduceEq, Int.reduceLT, Int.reduceLE, Int.reduceToNat, Int.reduceAdd, Int.reduceSub, Int.reduceNeg, UInt8.reduceToNat]); (· intro h; (try simp only [Bool.and_eq_true, Bool.not_eq_true', Bool.not_eq_false'] at h); simp only [↓h, go_sem, Nat.reduceEqDiff, Nat.reduceLT, ↓reduceIte, Nat.reduceAdd, Nat.reduceMul, Nat.reduceLeDiff, Nat.reduceSub, Nat.reduceBEq, Int.reduceEq, Int.reduceLT, Int.reduceLE, Int.reduceToNat, Int.reduceAdd, Int.reduceSub, Int.reduceNeg, UInt8.reduceToNat]; rfl); simp only [go_sem, Nat.reduceEqDiff, Nat.reduceLT, ↓reduceIte, Nat.reduceAdd, Nat.reduceMul, Nat.reduceLeDiff, Nat.reduceSub, Nat.reduceBEq, Int.reduceEq, Int.reduceLT, Int.reduceLE, Int.reduceToNat, Int.reduceAdd, Int.reduceSub, Int.reduceNeg, UInt8.reduceToNat])
    | (apply e_gpk E; (· simp only [go_sem, Nat.reduceEqDiff, Nat.reduceLT, ↓reduceIte, Nat.reduceAdd, Nat.reduceMul, Nat.reduceLeDiff, Nat.reduceSub, Nat.reduceBEq, Int.reduceEq, Int.reduceLT, Int.reduceLE, Int.reduceToNat, Int.reduceAdd, Int.reduceSub, Int.reduceNeg, UInt8.reduceToNat]); (· intro h; (try simp only [Bool.and_eq_true, Bool.not_eq_true', Bool.not_eq_false'] at h); simp only [↓h, go_sem, Nat.reduceEqDiff, Nat.reduceLT, ↓reduceIte, Nat.reduceAdd, Nat.reduceMul, Nat.reduceLeDiff, Nat.reduceSub, Nat.reduceBEq, Int.reduceEq, Int.reduceLT, Int.reduceLE, Int.reduceToNat, Int.reduceAdd, Int.reduceSub, Int.reduceNeg, UInt8.reduceToNat]; rfl); (· intro h; (try simp only [Bool.and_eq_true, Bool.not_eq_true', Bool.not_eq_false'] at h); simp only [↓h, go_sem, Nat.reduceEqDiff, Nat.reduceLT, ↓reduceIte, Nat.reduceAdd, Nat.reduceMul, Nat.reduceLeDiff, Nat.reduceSub, Nat.reduceBEq, Int.reduceEq, Int.reduceLT, Int.reduceLE, Int.reduceToNat, Int.reduceAdd, Int.reduceSub, Int.reduceNeg, UInt8.reduceToNat]; rfl); simp only [go_sem, Nat.reduceEqDiff, Nat.reduceLT, ↓reduceIte, Nat.reduceAdd, Nat.reduceMul, Nat.reduceLeDiff, Nat.reduceSub, Nat.reduceBEq, Int.reduceEq, Int.reduceLT, Int.reduceLE, Int.reduceToNat, Int.reduceAdd, Int.reduceSub, Int.reduceNeg, UInt8.reduceToNat])
    | (apply e_gm2 E; (· simp only [go_sem, Nat.reduceEqDiff, Nat.reduceLT, ↓reduceIte, Nat.reduceAdd, Nat.reduceMul, Nat.reduceLeDiff, Nat.reduceSub, Nat.reduceBEq, Int.reduceEq, Int.reduceLT, Int.reduceLE, Int.reduceToNat, Int.reduceAdd, Int.reduceSub, Int.reduceNeg, UInt8.reduceToNat]); (· rfl); (· intro h h'; (try simp only [Bool.and_eq_true, Bool.not_eq_true', Bool.not_eq_false'] at h h'); simp only [↓h, ↓h', go_sem, Nat.reduceEqDiff, Nat.reduceLT, ↓reduceIte, Nat.reduceAdd, Nat.reduceMul, Nat.reduceLeDiff, Nat.reduceSub, Nat.reduceBEq, Int.reduceEq, Int.reduceLT, Int.reduceLE, Int.reduceToNat, Int.reduceAdd, Int.reduceSub, Int.reduceNeg, UInt8.reduceToNat]; rfl); simp only [go_sem, Nat.reduceEqDiff, Nat.reduceLT, ↓reduceIte, Nat.reduceAdd, Nat.reduceMul, Nat.reduceLeDiff, Nat.reduceSub, Nat.reduceBEq, Int.reduceEq, Int.reduceLT, Int.reduceLE, Int.reduceToNat, Int.reduceAdd, Int.reduceSub, Int.reduceNeg, UInt8.reduceToNat])
    | (apply e_gpk2 E; (· simp only [go_sem, Nat.reduceEqDiff, Nat.reduceLT, ↓reduceIte, Nat.reduceAdd, Nat.reduceMul, Nat.reduceLeDiff, Nat.reduceSub, Nat.reduceBEq, Int.reduceEq, Int.reduceLT, Int.reduceLE, Int.reduceToNat, Int.reduceAdd, Int.reduceSub, Int.reduceNeg, UInt8.reduceToNat]); (· rfl); (· intro h h'; (try simp only [Bool.and_eq_true, Bool.not_eq_true', Bool.not_eq_false'] at h h'); simp only [↓h, ↓h', go_sem, Nat.reduceEqDiff, Nat.reduceLT, ↓reduceIte, Nat.reduceAdd, Nat.reduceMul, Nat.reduceLeDiff, Nat.reduceSub, Nat.reduceBEq, Int.reduceEq, Int.reduceLT, Int.reduceLE, Int.reduceToNat, Int.reduceAdd, Int.reduceSub, Int.reduceNeg, UInt8.reduceToNat]; rfl); (· intro h h'; (try simp only [Bool.and_eq_true, Bool.not_eq_true', Bool.not_eq_false'] at h h'); simp only [↓h, ↓h', go_sem, Nat.reduceEqDiff, Nat.reduceLT, ↓reduceIte, Nat.reduceAdd, Nat.reduceMul, Nat.reduceLeDiff, Nat.reduceSub, Nat.reduceBEq, Int.reduceEq, Int.reduceLT, Int.reduceLE, Int.reduceToNat, Int.reduceAdd, Int.reduceSub, Int.reduceNeg, UInt8.reduceToNat]; rfl); simp only [go_sem, Nat.reduceEqDiff, Nat.reduceLT, ↓reduceIte, Nat.reduceAdd, Nat.reduceMul, Nat.reduceLeDiff, Nat.reduceSub, Nat.reduceBEq, Int.reduceEq, Int.reduceLT, Int.reduceLE, Int.reduceToNat, Int.reduceAdd, Int.reduceSub, Int.reduceNeg, UInt8.reduceToNat])
    | (apply e_pk E; (· decide); simp only [go_sem, Nat.reduceEqDiff, Nat.reduceLT, ↓reduceIte, Nat.reduceAdd, Nat.reduceMul, Nat.reduceLeDiff, Nat.reduceSub, Nat.reduceBEq, Int.reduceEq, Int.reduceLT, Int.reduceLE, Int.reduceToNat, Int.reduceAdd, Int.reduceSub, Int.reduceNeg, UInt8.reduceToNat]))
  refine e_if E (fun h12 => ?_) (fun h12 => ?_) <;> simp only [go_sem, Nat.reduceEqDiff, Nat.reduceLT, ↓reduceIte, Nat.reduceAdd, Nat.reduceMul, Nat.reduceLeDiff, Nat.reduceSub, Nat.reduceBEq, Int.reduceEq, Int.reduceLT, Int.reduceLE, Int.reduceToNat, Int.reduceAdd, Int.reduceSub, Int.reduceNeg, UInt8.reduceToNat]
  · have hp : pairZ n.k = true := h12
    have h2 := h2 hp
    refine region_xv mixed E fun X => ?_
    simp only [go_sem, Nat.reduceEqDiff, Nat.reduceLT, ↓reduceIte, Nat.reduceAdd, Nat.reduceMul, Nat.reduceLeDiff, Nat.reduceSub, Nat.reduceBEq, Int.reduceEq, Int.reduceLT, Int.reduceLE, Int.reduceToNat, Int.reduceAdd, Int.reduceSub, Int.reduceNeg, UInt8.reduceToNat]
    refine ⟨by omega, ?_⟩
    rw [ints_getD (by omega)]
    simp only [go_sem, Nat.reduceEqDiff, Nat.reduceLT, ↓reduceIte, Nat.reduceAdd, Nat.reduceMul, Nat.reduceLeDiff, Nat.reduceSub, Nat.reduceBEq, Int.reduceEq, Int.reduceLT, Int.reduceLE, Int.reduceToNat, Int.reduceAdd, Int.reduceSub, Int.reduceNeg, UInt8.reduceToNat]
    refine ⟨by omega, ?_⟩
    rw [ints_getD (by omega)]
    simp only [go_sem, Nat.reduceEqDiff, Nat.reduceLT, ↓reduceIte, Nat.reduceAdd, Nat.reduceMul, Nat.reduceLeDiff, Nat.reduceSub, Nat.reduceBEq, Int.reduceEq, Int.reduceLT, Int.reduceLE, Int.reduceToNat, Int.reduceAdd, Int.reduceSub, Int.reduceNeg, UInt8.reduceToNat]
    refine ⟨by decide +kernel, ?_⟩
    have hA : (if pairZ n.k then K.getD 0 0 else if n.k = 11 then n.a else 0) = K.getD 0 0 := by rw [hp]; simp
    have hB : (if pairZ n.k then K.getD 1 0 else 0) = K.getD 1 0 := by rw [hp]; simp
    refine c_frB E [2] (.agg [i64 n.k, i64 n.a, i64 n.b, .sl (some 2) (n.l.map fldD)]) rfl rfl ?_
    simp only [go_sem, Nat.reduceEqDiff, Nat.reduceLT, ↓reduceIte, Nat.reduceAdd, Nat.reduceMul, Nat.reduceLeDiff, Nat.reduceSub, Nat.reduceBEq, Int.reduceEq, Int.reduceLT, Int.reduceLE, Int.reduceToNat, Int.reduceAdd, Int.reduceSub, Int.reduceNeg, UInt8.reduceToNat]
    refine c_thawB E [5] 3 99 (some 2) [.d (i64 n.k), .d (i64 (K.getD 0 0)), .d (i64 (K.getD 1 0)), .d .nils] rfl rfl (by rw [mk_used]; decide) ?_
    simp only [go_sem, Nat.reduceEqDiff, Nat.reduceLT, ↓reduceIte, Nat.reduceAdd, Nat.reduceMul, Nat.reduceLeDiff, Nat.reduceSub, Nat.reduceBEq, Int.reduceEq, Int.reduceLT, Int.reduceLE, Int.reduceToNat, Int.reduceAdd, Int.reduceSub, Int.reduceNeg, UInt8.reduceToNat]
    refine loopT_e E (X := { i : Nat // i ≤ n.l.length }) (fun x => [(1, .d (.sl none (K.map i64))), (2, .d (.ptr (.agg [i64 n.k, i64 n.a, i64 n.b, .sl (some 2) (n.l.map fldD)]))), (4, .bx [4] 0), (5, .bx [5] 0), (6, .d (i64 x.1))])
      (fun x => [([4], .box [.d (i64 0), .d (i64 0), .d (i64 0), .d .nils]), ([5], .box [.d (i64 n.k), .d (i64 (K.getD 0 0)), .d (i64 (K.getD 1 0)), .vw [99] 0 x.1]), ([99], .arr (some 2) ((wflds n K x.1).map fldD))]) [4, 5, 99] (fun x => n.l.length - x.1) ⟨0, Nat.zero_le _⟩ id ?_ ?_
    · simp only [go_sem, Nat.reduceEqDiff, Nat.reduceLT, ↓reduceIte, Nat.reduceAdd, Nat.reduceMul, Nat.reduceLeDiff, Nat.reduceSub, Nat.reduceBEq, Int.reduceEq, Int.reduceLT, Int.reduceLE, Int.reduceToNat, Int.reduceAdd, Int.reduceSub, Int.reduceNeg, UInt8.reduceToNat]
      all_goals rfl
    rintro ⟨i, hi⟩ E0
    refine hideQ E0 fun Q' hQ E' => ?_
    simp only at hi ⊢
    simp only [go_sem, Nat.reduceEqDiff, Nat.reduceLT, ↓reduceIte, Nat.reduceAdd, Nat.reduceMul, Nat.reduceLeDiff, Nat.reduceSub, Nat.reduceBEq, Int.reduceEq, Int.reduceLT, Int.reduceLE, Int.reduceToNat, Int.reduceAdd, Int.reduceSub, Int.reduceNeg, UInt8.reduceToNat]
    refine e_ifd E' (fun h1 => ?_) (fun h1 => ?_) <;> simp only [go_sem, Nat.reduceEqDiff, Nat.reduceLT, ↓reduceIte, Nat.reduceAdd, Nat.reduceMul, Nat.reduceLeDiff, Nat.reduceSub, Nat.reduceBEq, Int.reduceEq, Int.reduceLT, Int.reduceLE, Int.reduceToNat, Int.reduceAdd, Int.reduceSub, Int.reduceNeg, UInt8.reduceToNat]
    · have h1' : i < n.l.length := by omega
      refine region_xv mixed E' fun X => ?_
      simp only [go_sem, Nat.reduceEqDiff, Nat.reduceLT, ↓reduceIte, Nat.reduceAdd, Nat.reduceMul, Nat.reduceLeDiff, Nat.reduceSub, Nat.reduceBEq, Int.reduceEq, Int.reduceLT, Int.reduceLE, Int.reduceToNat, Int.reduceAdd, Int.reduceSub, Int.reduceNeg, UInt8.reduceToNat]
      refine ⟨⟨by omega, by omega⟩, ?_⟩
      rw [flds_get h1']
      simp only [go_sem, Nat.reduceEqDiff, Nat.reduceLT, ↓reduceIte, Nat.reduceAdd, Nat.reduceMul, Nat.reduceLeDiff, Nat.reduceSub, Nat.reduceBEq, Int.reduceEq, Int.reduceLT, Int.reduceLE, Int.reduceToNat, Int.reduceAdd, Int.reduceSub, Int.reduceNeg, UInt8.reduceToNat]
      refine ⟨⟨by omega, by omega⟩, ?_⟩
      rw [ints_getD (by omega)]
      simp only [go_sem, Nat.reduceEqDiff, Nat.reduceLT, ↓reduceIte, Nat.reduceAdd, Nat.reduceMul, Nat.reduceLeDiff, Nat.reduceSub, Nat.reduceBEq, Int.reduceEq, Int.reduceLT, Int.reduceLE, Int.reduceToNat, Int.reduceAdd, Int.reduceSub, Int.reduceNeg, UInt8.reduceToNat]
      have hln : (wflds n K i).length = i := by simp [wflds]
      refine ⟨by omega, by decide +kernel, ?_⟩
      rw [List.take_of_length_le (by simp [hln]), wflds_step, hQ]
      simp only [go_sem, Nat.reduceEqDiff, Nat.reduceLT, ↓reduceIte, Nat.reduceAdd, Nat.reduceMul, Nat.reduceLeDiff, Nat.reduceSub, Nat.reduceBEq, Int.reduceEq, Int.reduceLT, Int.reduceLE, Int.reduceToNat, Int.reduceAdd, Int.reduceSub, Int.reduceNeg, UInt8.reduceToNat]
      refine ⟨⟨i + 1, by omega⟩, by show n.l.length - (i + 1) < _; omega, tau [([99], [58])], ?_⟩
      simp only [go_sem, Nat.reduceEqDiff, Nat.reduceLT, ↓reduceIte, Nat.reduceAdd, Nat.reduceMul, Nat.reduceLeDiff, Nat.reduceSub, Nat.reduceBEq, Int.reduceEq, Int.reduceLT, Int.reduceLE, Int.reduceToNat, Int.reduceAdd, Int.reduceSub, Int.reduceNeg, UInt8.reduceToNat]
      rw [w64_in ⟨by omega, by omega⟩]
      rfl
    · have h3 : i = n.l.length := by omega
      subst h3
      rw [hQ]
      simp only [go_sem, Nat.reduceEqDiff, Nat.reduceLT, ↓reduceIte, Nat.reduceAdd, Nat.reduceMul, Nat.reduceLeDiff, Nat.reduceSub, Nat.reduceBEq, Int.reduceEq, Int.reduceLT, Int.reduceLE, Int.reduceToNat, Int.reduceAdd, Int.reduceSub, Int.reduceNeg, UInt8.reduceToNat]
      refine ⟨[([99], some 2, (wflds n K n.l.length).map fldD)], ?_⟩
      simp only [go_sem, Nat.reduceEqDiff, Nat.reduceLT, ↓reduceIte, Nat.reduceAdd, Nat.reduceMul, Nat.reduceLeDiff, Nat.reduceSub, Nat.reduceBEq, Int.reduceEq, Int.reduceLT, Int.reduceLE, Int.reduceToNat, Int.reduceAdd, Int.reduceSub, Int.reduceNeg, UInt8.reduceToNat]
      rw [List.take_of_length_le (by simp [wflds]), withN, hA, hB]
  · have hp : pairZ n.k = false := h12
    have hA : (if pairZ n.k then K.getD 0 0 else if n.k = 11 then n.a else 0) = 0 := by rw [hp]; simp [h11]
    have hB : (if pairZ n.k then K.getD 1 0 else 0) = 0 := by rw [hp]; simp
    refine c_frB E [2] (.agg [i64 n.k, i64 n.a, i64 n.b, .sl (some 2) (n.l.map fldD)]) rfl rfl ?_
    simp only [go_sem, Nat.reduceEqDiff, Nat.reduceLT, ↓reduceIte, Nat.reduceAdd, Nat.reduceMul, Nat.reduceLeDiff, Nat.reduceSub, Nat.reduceBEq, Int.reduceEq, Int.reduceLT, Int.reduceLE, Int.reduceToNat, Int.reduceAdd, Int.reduceSub, Int.reduceNeg, UInt8.reduceToNat]
    refine c_thawB E [5] 3 99 (some 2) [.d (i64 n.k), .d (i64 0), .d (i64 0), .d .nils] rfl rfl (by rw [mk_used]; decide) ?_
    simp only [go_sem, Nat.reduceEqDiff, Nat.reduceLT, ↓reduceIte, Nat.reduceAdd, Nat.reduceMul, Nat.reduceLeDiff, Nat.reduceSub, Nat.reduceBEq, Int.reduceEq, Int.reduceLT, Int.reduceLE, Int.reduceToNat, Int.reduceAdd, Int.reduceSub, Int.reduceNeg, UInt8.reduceToNat]
    refine loopT_e E (X := { i : Nat // i ≤ n.l.length }) (fun x => [(1, .d (.sl none (K.map i64))), (2, .d (.ptr (.agg [i64 n.k, i64 n.a, i64 n.b, .sl (some 2) (n.l.map fldD)]))), (4, .bx [4] 0), (5, .bx [5] 0), (6, .d (i64 x.1))])
      (fun x => [([4], .box [.d (i64 0), .d (i64 0), .d (i64 0), .d .nils]), ([5], .box [.d (i64 n.k), .d (i64 0), .d (i64 0), .vw [99] 0 x.1]), ([99], .arr (some 2) ((wflds n K x.1).map fldD))]) [4, 5, 99] (fun x => n.l.length - x.1) ⟨0, Nat.zero_le _⟩ id ?_ ?_
    · simp only [go_sem, Nat.reduceEqDiff, Nat.reduceLT, ↓reduceIte, Nat.reduceAdd, Nat.reduceMul, Nat.reduceLeDiff, Nat.reduceSub, Nat.reduceBEq, Int.reduceEq, Int.reduceLT, Int.reduceLE, Int.reduceToNat, Int.reduceAdd, Int.reduceSub, Int.reduceNeg, UInt8.reduceToNat]
      all_goals rfl
    rintro ⟨i, hi⟩ E0
    refine hideQ E0 fun Q' hQ E' => ?_
    simp only at hi ⊢
    simp only [go_sem, Nat.reduceEqDiff, Nat.reduceLT, ↓reduceIte, Nat.reduceAdd, Nat.reduceMul, Nat.reduceLeDiff, Nat.reduceSub, Nat.reduceBEq, Int.reduceEq, Int.reduceLT, Int.reduceLE, Int.reduceToNat, Int.reduceAdd, Int.reduceSub, Int.reduceNeg, UInt8.reduceToNat]
    refine e_ifd E' (fun h1 => ?_) (fun h1 => ?_) <;> simp only [go_sem, Nat.reduceEqDiff, Nat.reduceLT, ↓reduceIte, Nat.reduceAdd, Nat.reduceMul, Nat.reduceLeDiff, Nat.reduceSub, Nat.reduceBEq, Int.reduceEq, Int.reduceLT, Int.reduceLE, Int.reduceToNat, Int.reduceAdd, Int.reduceSub, Int.reduceNeg, UInt8.reduceToNat]
    · have h1' : i < n.l.length := by omega
      refine region_xv mixed E' fun X => ?_
      simp only [go_sem, Nat.reduceEqDiff, Nat.reduceLT, ↓reduceIte, Nat.reduceAdd, Nat.reduceMul, Nat.reduceLeDiff, Nat.reduceSub, Nat.reduceBEq, Int.reduceEq, Int.reduceLT, Int.reduceLE, Int.reduceToNat, Int.reduceAdd, Int.reduceSub, Int.reduceNeg, UInt8.reduceToNat]
      refine ⟨⟨by omega, by omega⟩, ?_⟩
      rw [flds_get h1']
      simp only [go_sem, Nat.reduceEqDiff, Nat.reduceLT, ↓reduceIte, Nat.reduceAdd, Nat.reduceMul, Nat.reduceLeDiff, Nat.reduceSub, Nat.reduceBEq, Int.reduceEq, Int.reduceLT, Int.reduceLE, Int.reduceToNat, Int.reduceAdd, Int.reduceSub, Int.reduceNeg, UInt8.reduceToNat]
      refine ⟨⟨by omega, by omega⟩, ?_⟩
      rw [ints_getD (by omega)]
      simp only [go_sem, Nat.reduceEqDiff, Nat.reduceLT, ↓reduceIte, Nat.reduceAdd, Nat.reduceMul, Nat.reduceLeDiff, Nat.reduceSub, Nat.reduceBEq, Int.reduceEq, Int.reduceLT, Int.reduceLE, Int.reduceToNat, Int.reduceAdd, Int.reduceSub, Int.reduceNeg, UInt8.reduceToNat]
      have hln : (wflds n K i).length = i := by simp [wflds]
      refine ⟨by omega, by decide +kernel, ?_⟩
      rw [List.take_of_length_le (by simp [hln]), wflds_step, hQ]
      simp only [go_sem, Nat.reduceEqDiff, Nat.reduceLT, ↓reduceIte, Nat.reduceAdd, Nat.reduceMul, Nat.reduceLeDiff, Nat.reduceSub, Nat.reduceBEq, Int.reduceEq, Int.reduceLT, Int.reduceLE, Int.reduceToNat, Int.reduceAdd, Int.reduceSub, Int.reduceNeg, UInt8.reduceToNat]
      refine ⟨⟨i + 1, by omega⟩, by show n.l.length - (i + 1) < _; omega, tau [([99], [58])], ?_⟩
      simp only [go_sem, Nat.reduceEqDiff, Nat.reduceLT, ↓reduceIte, Nat.reduceAdd, Nat.reduceMul, Nat.reduceLeDiff, Nat.reduceSub, Nat.reduceBEq, Int.reduceEq, Int.reduceLT, Int.reduceLE, Int.reduceToNat, Int.reduceAdd, Int.reduceSub, Int.reduceNeg, UInt8.reduceToNat]
      rw [w64_in ⟨by omega, by omega⟩]
      rfl
    · have h3 : i = n.l.length := by omega
      subst h3
      rw [hQ]
      simp only [go_sem, Nat.reduceEqDiff, Nat.reduceLT, ↓reduceIte, Nat.reduceAdd, Nat.reduceMul, Nat.reduceLeDiff, Nat.reduceSub, Nat.reduceBEq, Int.reduceEq, Int.reduceLT, Int.reduceLE, Int.reduceToNat, Int.reduceAdd, Int.reduceSub, Int.reduceNeg, UInt8.reduceToNat]
      refine ⟨[([99], some 2, (wflds n K n.l.length).map fldD)], ?_⟩
      simp only [go_sem, Nat.reduceEqDiff, Nat.reduceLT, ↓reduceIte, Nat.reduceAdd, Nat.reduceMul, Nat.reduceLeDiff, Nat.reduceSub, Nat.reduceBEq, Int.reduceEq, Int.reduceLT, Int.reduceLE, Int.reduceToNat, Int.reduceAdd, Int.reduceSub, Int.reduceNeg, UInt8.reduceToNat]
      rw [List.take_of_length_le (by simp [wflds]), withN, hA, hB]
/-- The place of a node. -/
def atI (l : List Int) (x : Int) : Int := (l.idxOf x : Nat)
def atA (N : Nat) (l : List Int) (k : Nat) : List Int := (List.range N).map fun (j : Nat) => if l.idxOf (j : Int) < k then atI l (j : Int) else 0
theorem atA_len (N : Nat) (l : List Int) (k : Nat) : (atA N l k).length = N := by simp [atA]
theorem atA_zero (N : Nat) (l : List Int) : atA N l 0 = List.replicate N 0 := by
  refine List.ext_getElem (by simp [atA]) fun q h1 h2 => ?_
  simp [atA]
theorem nodup_idx {l : List Int} (hn : l.Nodup) {i : Nat} (hi : i < l.length) : l.idxOf l[i] = i := by
  have hm : l[i] ∈ l := List.getElem_mem hi
  have hl := List.idxOf_lt_length_of_mem hm
  have hp := List.pairwise_iff_getElem.1 hn
  have h : l[l.idxOf l[i]] = l[i] := List.getElem_idxOf hl
  rcases Nat.lt_trichotomy (l.idxOf l[i]) i with g | g | g
  · exact absurd h (hp _ _ hl hi g)
  · exact g
  · exact absurd h.symm (hp _ _ hi hl g)
theorem atA_step {N : Nat} {l : List Int} (hn : l.Nodup) {k : Nat} (hk : k < l.length) {x : Nat} (hx : l[k] = (x : Int)) (_hN : x < N) : (atA N l k).set x (k : Int) = atA N l (k + 1) := by
  have hi : l.idxOf (x : Int) = k := by rw [← hx]; exact nodup_idx hn hk
  refine List.ext_getElem (by simp [atA]) fun q h1 h2 => ?_
  have hq : q < N := by simpa [atA] using h2
  simp only [List.getElem_set]
  by_cases e : x = q
  · subst e
    simp [atA, hi, atI]
  · rw [if_neg e]
    have : l.idxOf (q : Int) ≠ k := by
      intro h
      have hl : l.idxOf (q : Int) < l.length := by omega
      have h2 : l[l.idxOf (q : Int)] = (q : Int) := List.getElem_idxOf hl
      have h3 : l[l.idxOf (q : Int)] = l[k] := by congr 1
      rw [h2, hx] at h3
      omega
    have h5 : l.idxOf (q : Int) < k ↔ l.idxOf (q : Int) < k + 1 := by omega
    simp [atA, h5]
theorem atA_get {N : Nat} {l : List Int} {x : Nat} (hx : x < N) (hm : (x : Int) ∈ l) : (atA N l l.length).getD x 0 = atI l (x : Int) := by
  simp [atA, hx, List.idxOf_lt_length_of_mem hm]
def normN (ns : List TN) (l : List Int) (x : Int) : TN := withN (nd ns x.toNat) ((kidsI ns x).map (atI l))
set_option maxHeartbeats 4000000 in
theorem f26_ok {G} (ns : List TN) (r0 : Int) (root : Int) (hN : ns.length ≤ 4000) (hfl : ∀ n ∈ ns, n.l.length ≤ 1000000) (hk : KidIn ns) (hw : ∀ n ∈ ns, n.l.length ≤ (kidsL n).length) (hr : okI ns root) :
    HP Try.prog G 26 [typeS ns r0, i64 root] (fun r => ∃ l, r = .d (typeS (l.map (normN ns l)) 0) ∧ Belw ns root l) := by
  unfold typeS
  refine funZ_ok Try.func26 rfl (by decide +kernel) (by simp [Try.ntmps26]) (veil fun E => ?_)
  simp only [go_sem, Nat.reduceEqDiff, Nat.reduceLT, ↓reduceIte, Nat.reduceAdd, Nat.reduceMul, Nat.reduceLeDiff, Nat.reduceSub, Nat.reduceBEq, Int.reduceEq, Int.reduceLT, Int.reduceLE, Int.reduceToNat, Int.reduceAdd, Int.reduceSub, Int.reduceNeg, UInt8.reduceToNat]
  refine e_call E (f25_ok ns r0 root hN hfl hk hr) rfl rfl (by simp) ?_
  rintro _ ⟨l, rfl, hl⟩
  unfold intsD
  simp only [go_sem, Nat.reduceEqDiff, Nat.reduceLT, ↓reduceIte, Nat.reduceAdd, Nat.reduceMul, Nat.reduceLeDiff, Nat.reduceSub, Nat.reduceBEq, Int.reduceEq, Int.reduceLT, Int.reduceLE, Int.reduceToNat, Int.reduceAdd, Int.reduceSub, Int.reduceNeg, UInt8.reduceToNat]
  have hnd : l.Nodup := hl.1.nodup (by simp)
  have hcl : ∀ a ∈ l, ∀ b ∈ kidsI ns a, b ∈ l := hl.1.closed (by simp)
  have hll := hl.2.2
  refine ⟨⟨by omega, by omega, by omega, by omega⟩, ?_⟩
  refine c_frB E [2] (.agg [.sl (some 4) (ns.map nodeD), i64 r0]) rfl rfl ?_
  simp only [go_sem, Nat.reduceEqDiff, Nat.reduceLT, ↓reduceIte, Nat.reduceAdd, Nat.reduceMul, Nat.reduceLeDiff, Nat.reduceSub, Nat.reduceBEq, Int.reduceEq, Int.reduceLT, Int.reduceLE, Int.reduceToNat, Int.reduceAdd, Int.reduceSub, Int.reduceNeg, UInt8.reduceToNat]
  have hrep : List.replicate ns.length (D.int IntKind.i64 0) = (atA ns.length l 0).map i64 := by rw [atA_zero, List.map_replicate]
  rw [hrep]
  refine loopO_e E (X := { k : Nat // k ≤ l.length }) (fun x => [(2, .d (.ptr (.agg [.sl (some 4) (ns.map nodeD), i64 r0]))), (4, .bx [4] 0), (5, .d (.sl none (l.map i64))), (6, .vw [19] 0 ns.length), (7, .d (i64 x.1))]) (fun x => [([4], .box [.d .nils, .d (i64 0)]), ([19], .arr none ((atA ns.length l x.1).map i64))]) [4, 19] (fun x => l.length - x.1) ⟨0, Nat.zero_le _⟩ ?_ ?_
  · simp only [go_sem, Nat.reduceEqDiff, Nat.reduceLT, ↓reduceIte, Nat.reduceAdd, Nat.reduceMul, Nat.reduceLeDiff, Nat.reduceSub, Nat.reduceBEq, Int.reduceEq, Int.reduceLT, Int.reduceLE, Int.reduceToNat, Int.reduceAdd, Int.reduceSub, Int.reduceNeg, UInt8.reduceToNat]
    all_goals rfl
  rintro ⟨k, hkl⟩ E0
  refine hideQ E0 fun Q' hQ E' => ?_
  simp only at hkl ⊢
  simp only [go_sem, Nat.reduceEqDiff, Nat.reduceLT, ↓reduceIte, Nat.reduceAdd, Nat.reduceMul, Nat.reduceLeDiff, Nat.reduceSub, Nat.reduceBEq, Int.reduceEq, Int.reduceLT, Int.reduceLE, Int.reduceToNat, Int.reduceAdd, Int.reduceSub, Int.reduceNeg, UInt8.reduceToNat]
  refine e_ifd E' (fun h1 => ?_) (fun h1 => ?_) <;> simp only [go_sem, Nat.reduceEqDiff, Nat.reduceLT, ↓reduceIte, Nat.reduceAdd, Nat.reduceMul, Nat.reduceLeDiff, Nat.reduceSub, Nat.reduceBEq, Int.reduceEq, Int.reduceLT, Int.reduceLE, Int.reduceToNat, Int.reduceAdd, Int.reduceSub, Int.reduceNeg, UInt8.reduceToNat]
  · have h1' : k < l.length := by omega
    have hok := hl.2.1 l[k] (List.getElem_mem h1')
    obtain ⟨x, hx⟩ : ∃ x : Nat, l[k] = (x : Int) := ⟨l[k].toNat, by have := hok.1; omega⟩
    rw [hx] at hok
    have hxl : x < ns.length := by have := hok.2; omega
    refine ⟨⟨by omega, by omega⟩, ?_⟩
    rw [ints_get h1', hx]
    simp only [go_sem, Nat.reduceEqDiff, Nat.reduceLT, ↓reduceIte, Nat.reduceAdd, Nat.reduceMul, Nat.reduceLeDiff, Nat.reduceSub, Nat.reduceBEq, Int.reduceEq, Int.reduceLT, Int.reduceLE, Int.reduceToNat, Int.reduceAdd, Int.reduceSub, Int.reduceNeg, UInt8.reduceToNat]
    refine ⟨⟨by omega, by omega⟩, ?_⟩
    have := atA_step hnd h1' hx hxl
    rw [hQ]
    simp only [go_sem, Nat.reduceEqDiff, Nat.reduceLT, ↓reduceIte, Nat.reduceAdd, Nat.reduceMul, Nat.reduceLeDiff, Nat.reduceSub, Nat.reduceBEq, Int.reduceEq, Int.reduceLT, Int.reduceLE, Int.reduceToNat, Int.reduceAdd, Int.reduceSub, Int.reduceNeg, UInt8.reduceToNat]
    refine ⟨⟨k + 1, by omega⟩, by show l.length - (k + 1) < _; omega, by rw [w64_in ⟨by omega, by omega⟩]; rfl, ?_⟩
    rw [← this, List.map_set]
  · rw [hQ]
    simp only [go_sem, Nat.reduceEqDiff, Nat.reduceLT, ↓reduceIte, Nat.reduceAdd, Nat.reduceMul, Nat.reduceLeDiff, Nat.reduceSub, Nat.reduceBEq, Int.reduceEq, Int.reduceLT, Int.reduceLE, Int.reduceToNat, Int.reduceAdd, Int.reduceSub, Int.reduceNeg, UInt8.reduceToNat]
    have hk' : k = l.length := by omega
    subst hk'
    refine c_frz E [19] none _ rfl ?_
    simp only [go_sem, Nat.reduceEqDiff, Nat.reduceLT, ↓reduceIte, Nat.reduceAdd, Nat.reduceMul, Nat.reduceLeDiff, Nat.reduceSub, Nat.reduceBEq, Int.reduceEq, Int.reduceLT, Int.reduceLE, Int.reduceToNat, Int.reduceAdd, Int.reduceSub, Int.reduceNeg, UInt8.reduceToNat]
    rw [List.take_of_length_le (by simp [atA_len])]
    refine c_thawB E [8] 0 97 (some 4) [.d .nils, .d (i64 0)] rfl rfl (by rw [mk_used]; decide) ?_
    simp only [go_sem, Nat.reduceEqDiff, Nat.reduceLT, ↓reduceIte, Nat.reduceAdd, Nat.reduceMul, Nat.reduceLeDiff, Nat.reduceSub, Nat.reduceBEq, Int.reduceEq, Int.reduceLT, Int.reduceLE, Int.reduceToNat, Int.reduceAdd, Int.reduceSub, Int.reduceNeg, UInt8.reduceToNat]
    refine loopT_e E (X := { k : Nat // k ≤ l.length }) (fun x => [(2, .d (.ptr (.agg [.sl (some 4) (ns.map nodeD), i64 r0]))), (4, .bx [4] 0), (5, .d (.sl none (l.map i64))), (6, .d (.sl none ((atA ns.length l l.length).map i64))), (8, .bx [8] 0), (9, .d (i64 x.1))])
      (fun x => [([4], .box [.d .nils, .d (i64 0)]), ([8], .box [.vw [97] 0 x.1, .d (i64 0)]), ([97], .arr (some 4) ((l.take x.1).map fun s => nodeD (normN ns l s)))]) [4, 8, 97] (fun x => l.length - x.1) ⟨0, Nat.zero_le _⟩ id ?_ ?_
    · simp only [go_sem, Nat.reduceEqDiff, Nat.reduceLT, ↓reduceIte, Nat.reduceAdd, Nat.reduceMul, Nat.reduceLeDiff, Nat.reduceSub, Nat.reduceBEq, Int.reduceEq, Int.reduceLT, Int.reduceLE, Int.reduceToNat, Int.reduceAdd, Int.reduceSub, Int.reduceNeg, UInt8.reduceToNat]
      all_goals rfl
    rintro ⟨k, hkl⟩ E1
    refine hideQ E1 fun Q2 hQ2 E2 => ?_
    simp only at hkl ⊢
    simp only [go_sem, Nat.reduceEqDiff, Nat.reduceLT, ↓reduceIte, Nat.reduceAdd, Nat.reduceMul, Nat.reduceLeDiff, Nat.reduceSub, Nat.reduceBEq, Int.reduceEq, Int.reduceLT, Int.reduceLE, Int.reduceToNat, Int.reduceAdd, Int.reduceSub, Int.reduceNeg, UInt8.reduceToNat]
    refine e_ifd E2 (fun h1 => ?_) (fun h1 => ?_) <;> simp only [go_sem, Nat.reduceEqDiff, Nat.reduceLT, ↓reduceIte, Nat.reduceAdd, Nat.reduceMul, Nat.reduceLeDiff, Nat.reduceSub, Nat.reduceBEq, Int.reduceEq, Int.reduceLT, Int.reduceLE, Int.reduceToNat, Int.reduceAdd, Int.reduceSub, Int.reduceNeg, UInt8.reduceToNat]
    · have h1' : k < l.length := by omega
      have hok := hl.2.1 l[k] (List.getElem_mem h1')
      have hcl := hcl l[k] (List.getElem_mem h1')
      obtain ⟨x, hx⟩ : ∃ x : Nat, l[k] = (x : Int) := ⟨l[k].toNat, by have := hok.1; omega⟩
      rw [hx] at hok hcl
      have hxl : x < ns.length := by have := hok.2; omega
      have hin : nd ns x ∈ ns := by rw [nd_eq hxl]; exact List.getElem_mem hxl
      have hfx := hfl _ hin
      obtain ⟨hk1, hkn⟩ := hk x hxl
      refine region_xv mixed E2 fun X => ?_
      simp only [go_sem, Nat.reduceEqDiff, Nat.reduceLT, ↓reduceIte, Nat.reduceAdd, Nat.reduceMul, Nat.reduceLeDiff, Nat.reduceSub, Nat.reduceBEq, Int.reduceEq, Int.reduceLT, Int.reduceLE, Int.reduceToNat, Int.reduceAdd, Int.reduceSub, Int.reduceNeg, UInt8.reduceToNat]
      refine ⟨⟨by omega, by omega⟩, ?_⟩
      rw [ints_get h1', hx]
      simp only [go_sem, Nat.reduceEqDiff, Nat.reduceLT, ↓reduceIte, Nat.reduceAdd, Nat.reduceMul, Nat.reduceLeDiff, Nat.reduceSub, Nat.reduceBEq, Int.reduceEq, Int.reduceLT, Int.reduceLE, Int.reduceToNat, Int.reduceAdd, Int.reduceSub, Int.reduceNeg, UInt8.reduceToNat]
      refine ⟨⟨by omega, by omega⟩, ?_⟩
      rw [nodes_nd hxl]
      simp only [go_sem, Nat.reduceEqDiff, Nat.reduceLT, ↓reduceIte, Nat.reduceAdd, Nat.reduceMul, Nat.reduceLeDiff, Nat.reduceSub, Nat.reduceBEq, Int.reduceEq, Int.reduceLT, Int.reduceLE, Int.reduceToNat, Int.reduceAdd, Int.reduceSub, Int.reduceNeg, UInt8.reduceToNat]
      refine x_call X (f31_ok (nd ns x) hfx) rfl rfl (by simp) ?_
      simp only [go_sem, Nat.reduceEqDiff, Nat.reduceLT, ↓reduceIte, Nat.reduceAdd, Nat.reduceMul, Nat.reduceLeDiff, Nat.reduceSub, Nat.reduceBEq, Int.reduceEq, Int.reduceLT, Int.reduceLE, Int.reduceToNat, Int.reduceAdd, Int.reduceSub, Int.reduceNeg, UInt8.reduceToNat]
      refine ⟨by decide +kernel, ?_⟩
      obtain ⟨K, hK⟩ : ∃ K, K = kidsL (nd ns x) := ⟨_, rfl⟩
      have hKw := hw _ hin
      have hcl : ∀ b ∈ K, b ∈ l := by rw [hK]; exact hcl
      have hnx : normN ns l (x : Int) = withN (nd ns x) (K.map (atI l)) := by rw [hK]; rfl
      have hpr : pairZ (nd ns x).k = true → 2 ≤ K.length := fun h => by rw [hK, kidsL, if_pos h]; simp
      rw [← hK] at hk1 hkn hKw ⊢
      clear hK
      unfold intsD
      refine loopT_e E2 (X := { j : Nat // j ≤ K.length }) (fun y => [(2, .d (.ptr (.agg [.sl (some 4) (ns.map nodeD), i64 r0]))), (4, .bx [4] 0), (5, .d (.sl none (l.map i64))), (6, .d (.sl none ((atA ns.length l l.length).map i64))), (8, .bx [8] 0), (9, .d (i64 k)), (10, .d (.sl none (K.map i64))), (11, .vw [98] 0 y.1), (12, .d (i64 y.1))])
        (fun y => [([4], .box [.d .nils, .d (i64 0)]), ([8], .box [.vw [97] 0 k, .d (i64 0)]), ([97], .arr (some 4) ((l.take k).map fun s => nodeD (normN ns l s))), ([98], .arr none (((K.map (atI l)).take y.1).map i64))]) [4, 8, 97, 98] (fun y => K.length - y.1) ⟨0, Nat.zero_le _⟩ (tau [([98], [49])]) ?_ ?_
      · simp only [go_sem, Nat.reduceEqDiff, Nat.reduceLT, ↓reduceIte, Nat.reduceAdd, Nat.reduceMul, Nat.reduceLeDiff, Nat.reduceSub, Nat.reduceBEq, Int.reduceEq, Int.reduceLT, Int.reduceLE, Int.reduceToNat, Int.reduceAdd, Int.reduceSub, Int.reduceNeg, UInt8.reduceToNat]
        all_goals rfl
      rintro ⟨j, hj⟩ E3
      refine hideQ E3 fun Q3 hQ3 E4 => ?_
      simp only at hj ⊢
      simp only [go_sem, Nat.reduceEqDiff, Nat.reduceLT, ↓reduceIte, Nat.reduceAdd, Nat.reduceMul, Nat.reduceLeDiff, Nat.reduceSub, Nat.reduceBEq, Int.reduceEq, Int.reduceLT, Int.reduceLE, Int.reduceToNat, Int.reduceAdd, Int.reduceSub, Int.reduceNeg, UInt8.reduceToNat]
      refine e_ifd E4 (fun h4 => ?_) (fun h4 => ?_) <;> simp only [go_sem, Nat.reduceEqDiff, Nat.reduceLT, ↓reduceIte, Nat.reduceAdd, Nat.reduceMul, Nat.reduceLeDiff, Nat.reduceSub, Nat.reduceBEq, Int.reduceEq, Int.reduceLT, Int.reduceLE, Int.reduceToNat, Int.reduceAdd, Int.reduceSub, Int.reduceNeg, UInt8.reduceToNat]
      · have h4' : j < K.length := by omega
        have hb := hk1 K[j] (List.getElem_mem h4')
        have hm := hcl K[j] (List.getElem_mem h4')
        obtain ⟨y, hy⟩ : ∃ y : Nat, K[j] = (y : Int) := ⟨K[j].toNat, by omega⟩
        rw [hy] at hb hm
        refine ⟨⟨by omega, by omega⟩, ?_⟩
        rw [ints_get h4', hy]
        simp only [go_sem, Nat.reduceEqDiff, Nat.reduceLT, ↓reduceIte, Nat.reduceAdd, Nat.reduceMul, Nat.reduceLeDiff, Nat.reduceSub, Nat.reduceBEq, Int.reduceEq, Int.reduceLT, Int.reduceLE, Int.reduceToNat, Int.reduceAdd, Int.reduceSub, Int.reduceNeg, UInt8.reduceToNat]
        have hal := atA_len ns.length l l.length
        refine ⟨⟨by omega, by omega⟩, ?_⟩
        rw [ints_getD (by omega), atA_get (by omega) hm]
        simp only [go_sem, Nat.reduceEqDiff, Nat.reduceLT, ↓reduceIte, Nat.reduceAdd, Nat.reduceMul, Nat.reduceLeDiff, Nat.reduceSub, Nat.reduceBEq, Int.reduceEq, Int.reduceLT, Int.reduceLE, Int.reduceToNat, Int.reduceAdd, Int.reduceSub, Int.reduceNeg, UInt8.reduceToNat]
        have htk : List.map i64 (List.take j (List.map (atI l) K)) ++ [i64 (atI l (y : Int))] = List.map i64 (List.take (j + 1) (List.map (atI l) K)) := by
          have h4'' : j < (List.map (atI l) K).length := by simpa using h4'
          rw [List.take_succ_eq_append_getElem h4'', List.map_append]
          simp [hy]
        refine ⟨by omega, ?_⟩
        rw [List.take_of_length_le (l := List.map i64 (List.take j (List.map (atI l) K))) (by simp; omega), htk, hQ3]
        simp only [go_sem, Nat.reduceEqDiff, Nat.reduceLT, ↓reduceIte, Nat.reduceAdd, Nat.reduceMul, Nat.reduceLeDiff, Nat.reduceSub, Nat.reduceBEq, Int.reduceEq, Int.reduceLT, Int.reduceLE, Int.reduceToNat, Int.reduceAdd, Int.reduceSub, Int.reduceNeg, UInt8.reduceToNat]
        refine ⟨⟨j + 1, by omega⟩, by show K.length - (j + 1) < _; omega, tau [([98], [65])], ?_⟩
        simp only [go_sem, Nat.reduceEqDiff, Nat.reduceLT, ↓reduceIte, Nat.reduceAdd, Nat.reduceMul, Nat.reduceLeDiff, Nat.reduceSub, Nat.reduceBEq, Int.reduceEq, Int.reduceLT, Int.reduceLE, Int.reduceToNat, Int.reduceAdd, Int.reduceSub, Int.reduceNeg, UInt8.reduceToNat]
        rw [w64_in ⟨by omega, by omega⟩]
        rfl
      · have h4' : j = K.length := by omega
        subst h4'
        rw [hQ3]
        simp only [go_sem, Nat.reduceEqDiff, Nat.reduceLT, ↓reduceIte, Nat.reduceAdd, Nat.reduceMul, Nat.reduceLeDiff, Nat.reduceSub, Nat.reduceBEq, Int.reduceEq, Int.reduceLT, Int.reduceLE, Int.reduceToNat, Int.reduceAdd, Int.reduceSub, Int.reduceNeg, UInt8.reduceToNat]
        refine c_frz E2 [98] none _ rfl ?_
        simp only [go_sem, Nat.reduceEqDiff, Nat.reduceLT, ↓reduceIte, Nat.reduceAdd, Nat.reduceMul, Nat.reduceLeDiff, Nat.reduceSub, Nat.reduceBEq, Int.reduceEq, Int.reduceLT, Int.reduceLE, Int.reduceToNat, Int.reduceAdd, Int.reduceSub, Int.reduceNeg, UInt8.reduceToNat]
        have hKl : (List.take K.length (List.map i64 (List.map (atI l) K))) = List.map i64 (List.map (atI l) K) := List.take_of_length_le (by simp)
        rw [hKl]
        refine region_xv mixed E2 fun X => ?_
        simp only [go_sem, Nat.reduceEqDiff, Nat.reduceLT, ↓reduceIte, Nat.reduceAdd, Nat.reduceMul, Nat.reduceLeDiff, Nat.reduceSub, Nat.reduceBEq, Int.reduceEq, Int.reduceLT, Int.reduceLE, Int.reduceToNat, Int.reduceAdd, Int.reduceSub, Int.reduceNeg, UInt8.reduceToNat]
        refine ⟨⟨by omega, by omega⟩, ?_⟩
        rw [ints_get h1', hx]
        simp only [go_sem, Nat.reduceEqDiff, Nat.reduceLT, ↓reduceIte, Nat.reduceAdd, Nat.reduceMul, Nat.reduceLeDiff, Nat.reduceSub, Nat.reduceBEq, Int.reduceEq, Int.reduceLT, Int.reduceLE, Int.reduceToNat, Int.reduceAdd, Int.reduceSub, Int.reduceNeg, UInt8.reduceToNat]
        refine ⟨⟨by omega, by omega⟩, ?_⟩
        rw [nodes_nd hxl]
        simp only [go_sem, Nat.reduceEqDiff, Nat.reduceLT, ↓reduceIte, Nat.reduceAdd, Nat.reduceMul, Nat.reduceLeDiff, Nat.reduceSub, Nat.reduceBEq, Int.reduceEq, Int.reduceLT, Int.reduceLE, Int.reduceToNat, Int.reduceAdd, Int.reduceSub, Int.reduceNeg, UInt8.reduceToNat]
        have hKm : (List.map (atI l) K).length = K.length := by simp
        refine x_call X (f41_ok (nd ns x) (K.map (atI l)) hfx (by omega) (fun h => by rw [hKm]; exact hpr h) (by omega)) rfl rfl (by simp) ?_
        rw [← hnx]
        have hnd2 : nodeD (normN ns l (x : Int)) = .agg [i64 (normN ns l (x : Int)).k, i64 (normN ns l (x : Int)).a, i64 (normN ns l (x : Int)).b, .sl (some 2) ((normN ns l (x : Int)).l.map fldD)] := rfl
        rw [hnd2]
        simp only [go_sem, Nat.reduceEqDiff, Nat.reduceLT, ↓reduceIte, Nat.reduceAdd, Nat.reduceMul, Nat.reduceLeDiff, Nat.reduceSub, Nat.reduceBEq, Int.reduceEq, Int.reduceLT, Int.reduceLE, Int.reduceToNat, Int.reduceAdd, Int.reduceSub, Int.reduceNeg, UInt8.reduceToNat]
        refine ⟨by omega, by decide +kernel, ?_⟩
        rw [← hnd2]
        have htk3 : List.take k (List.map (fun s => nodeD (normN ns l s)) (List.take k l)) ++ [nodeD (normN ns l (x : Int))] = List.map (fun s => nodeD (normN ns l s)) (List.take (k + 1) l) := by
          rw [List.take_of_length_le (by simp; omega), List.take_succ_eq_append_getElem h1', List.map_append, hx]
          rfl
        rw [htk3, hQ2]
        simp only [go_sem, Nat.reduceEqDiff, Nat.reduceLT, ↓reduceIte, Nat.reduceAdd, Nat.reduceMul, Nat.reduceLeDiff, Nat.reduceSub, Nat.reduceBEq, Int.reduceEq, Int.reduceLT, Int.reduceLE, Int.reduceToNat, Int.reduceAdd, Int.reduceSub, Int.reduceNeg, UInt8.reduceToNat]
        refine ⟨⟨k + 1, by omega⟩, by show l.length - (k + 1) < _; omega, tau [([97], [79])], ?_⟩
        simp only [go_sem, Nat.reduceEqDiff, Nat.reduceLT, ↓reduceIte, Nat.reduceAdd, Nat.reduceMul, Nat.reduceLeDiff, Nat.reduceSub, Nat.reduceBEq, Int.reduceEq, Int.reduceLT, Int.reduceLE, Int.reduceToNat, Int.reduceAdd, Int.reduceSub, Int.reduceNeg, UInt8.reduceToNat]
        rw [w64_in ⟨by omega, by omega⟩]
        rfl
    · rw [hQ2]
      simp only [go_sem, Nat.reduceEqDiff, Nat.reduceLT, ↓reduceIte, Nat.reduceAdd, Nat.reduceMul, Nat.reduceLeDiff, Nat.reduceSub, Nat.reduceBEq, Int.reduceEq, Int.reduceLT, Int.reduceLE, Int.reduceToNat, Int.reduceAdd, Int.reduceSub, Int.reduceNeg, UInt8.reduceToNat]
      have hk' : k = l.length := by omega
      subst hk'
      refine ⟨[([97], some 4, (l.take l.length).map fun s => nodeD (normN ns l s))], ?_⟩
      simp only [go_sem, Nat.reduceEqDiff, Nat.reduceLT, ↓reduceIte, Nat.reduceAdd, Nat.reduceMul, Nat.reduceLeDiff, Nat.reduceSub, Nat.reduceBEq, Int.reduceEq, Int.reduceLT, Int.reduceLE, Int.reduceToNat, Int.reduceAdd, Int.reduceSub, Int.reduceNeg, UInt8.reduceToNat]
      refine ⟨l, ?_, hl⟩
      simp [typeS, Function.comp_def]
end Go.Proofs.Ytmplpdjddjiioaa
