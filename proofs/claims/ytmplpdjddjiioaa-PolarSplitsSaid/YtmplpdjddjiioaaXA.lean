/-
  The same list of nodes twice; what is split is as the document says.
-/
import Derived.Test.YtmplpdjddjiioaaX9
set_option linter.all false
namespace Go.Proofs.Ytmplpdjddjiioaa
open Go.Ab
theorem str60 : Try.prog.structOk 60 = true := by kernel_rfl
set_option maxHeartbeats 1000000 in
theorem f11_ok {G} (ns : List TN) (root : Int) (hN : ns.length ≤ 1000000) (hfl : ∀ n ∈ ns, n.l.length ≤ 1000000) : HP Try.prog G 11 [typeS ns root, typeS ns root] (fun r => r = .d (.bool true)) := by
  unfold typeS
  refine funP_ok Try.func11 rfl (by decide +kernel) (by simp [Try.ntmps11]) (veil fun E => ?_)
  simp only [go_sem, Nat.reduceEqDiff, Nat.reduceLT, ↓reduceIte, Nat.reduceAdd, Nat.reduceMul, Nat.reduceLeDiff, Nat.reduceSub, Nat.reduceBEq, Int.reduceEq, Int.reduceLT, Int.reduceLE, Int.reduceToNat, Int.reduceAdd, Int.reduceSub, Int.reduceNeg, UInt8.reduceToNat]
  repeat (first
    | (apply e_gm E; (· simp only [go_sem, Nat.reduceEqDiff, Nat.reduceLT, ↓reduceIte, Nat.reduceAdd, Nat.reduceMul, Nat.reduceLeDiff, Nat.reduceSub, Nat.reduceBEq, Int.reduceEq, Int.reduceLT, Int.reduceLE, Int.reduceToNat, Int.reduceAdd, Int.reduceSub, Int.reduceNeg, UInt8.reduceToNat]); (· intro h; (try simp only [Bool.and_eq_true, Bool.not_eq_true', Bool.not_eq_false'] at h); simp only [↓h, go_sem, Nat.reduceEqDiff, Nat.reduceLT, ↓reduceIte, Nat.reduceAdd, Nat.reduceMul, Nat.reduceLeDiff, Nat.reduceSub, Nat.reduceBEq, Int.reduceEq, Int.reduceLT, Int.reduceLE, Int.reduceToNat, Int.reduceAdd, Int.reduceSub, Int.reduceNeg, UInt8.reduceToNat]; rfl); simp only [go_sem, Nat.reduceEqDiff, Nat.reduceLT, ↓reduceIte, Nat.reduceAdd, Nat.reduceMul, Nat.reduceLeDiff, Nat.reduceSub, Nat.reduceBEq, Int.reduceEq, Int.reduceLT, Int.reduceLE, Int.reduceToNat, Int.reduceAdd, Int.reduceSub, Int.reduceNeg, UInt8.reduceToNat])
    | (apply e_gpk E; (· simp only [go_sem, Nat.reduceEqDiff, Nat.reduceLT, ↓reduceIte, Nat.reduceAdd, Nat.reduceMul, Nat.reduceLeDiff, Nat.reduceSub, Nat.reduceBEq, Int.reduceEq, Int.reduceLT, Int.reduceLE, Int.reduceToNat, Int.reduceAdd, Int.reduceSub, Int.reduceNeg, UInt8.reduceToNat]); (· intro h; (try simp only [Bool.and_eq_true, Bool.not_eq_true', Bool.not_eq_false'] at h); simp only [↓h, go_sem, Nat.reduceEqDiff, Nat.reduceLT, ↓reduceIte, Nat.reduceAdd, Nat.reduceMul, Nat.reduceLeDiff, Nat.reduceSub, Nat.reduceBEq, Int.reduceEq, Int.reduceLT, Int.reduceLE, Int.reduceToNat, Int.reduceAdd, Int.reduceSub, Int.reduceNeg, UInt8.reduceToNat]; rfl); (· intro h; (try simp only [Bool.and_eq_true, Bool.not_eq_true', Bool.not_eq_false'] at h); simp only [↓h, go_sem, Nat.reduceEqDiff, Nat.reduceLT, ↓reduceIte, Nat.reduceAdd, Nat.reduceMul, Nat.reduceLeDiff, Nat.reduceSub, Nat.reduceBEq, Int.reduceEq, Int.reduceLT, Int.reduceLE, Int.reduceToNat, Int.reduceAdd, Int.reduceSub, Int.reduceNeg, UInt8.reduceToNat]; rfl); simp only [go_sem, Nat.reduceEqDiff, Nat.reduceLT, ↓reduceIte, Nat.reduceAdd, Nat.reduceMul, Nat.reduceLeDiff, Nat.reduceSub, Nat.reduceBEq, Int.reduceEq, Int.reduceLT, Int.reduceLE, Int.reduceToNat, Int.reduceAdd, Int.reduceSub, Int.reduceNeg, UInt8.reduceToNat])
    | (apply e_gm2 E; (· simp only [go_sem, Nat.reduceEqDiff, Nat.reduceLT, ↓reduceIte, Nat.reduceAdd, Nat.reduceMul, Nat.reduceLeDiff, Nat.reduceSub, Nat.reduceBEq, Int.reduceEq, Int.reduceLT, Int.reduceLE, Int.reduceToNat, Int.reduceAdd, Int.reduceSub, Int.reduceNeg, UInt8.reduceToNat]); (· rfl); (· intro h h'; (try simp only [Bool.and_eq_true, Bool.not_eq_true', Bool.not_eq_false'] at h h'); simp only [↓h, ↓h', go_sem, Nat.reduceEqDiff, Nat.reduceLT, ↓reduceIte, Nat.reduceAdd, Nat.reduceMul, Nat.reduceLeDiff, Nat.reduceSub, Nat.reduceBEq, Int.reduceEq, Int.reduceLT, Int.reduceLE, Int.reduceToNat, Int.reduceAdd, Int.reduceSub, Int.reduceNeg, UInt8.reduceToNat]; rfl); simp only [go_sem, Nat.reduceEqDiff, Nat.reduceLT, ↓reduceIte, Nat.reduceAdd, Nat.reduceMul, Nat.reduceLeDiff, Nat.reduceSub, Nat.reduceBEq, Int.reduceEq, Int.reduceLT, Int.reduceLE, Int.reduceToNat, Int.reduceAdd, Int.reduceSub, Int.reduceNeg, UInt8.reduceToNat])
    | (apply e_gpk2 E; (· simp only [go_sem, Nat.reduceEqDiff, Nat.reduceLT, ↓reduceIte, Nat.reduceAdd, Nat.reduceMul, Nat.reduceLeDiff, Nat.reduceSub, Nat.reduceBEq, Int.reduceEq, Int.reduceLT, Int.reduceLE, Int.reduceToNat, Int.reduceAdd, Int.reduceSub, Int.reduceNeg, UInt8.reduceToNat]); (· rfl); (· intro h h'; (try simp only [Bool.and_eq_true, Bool.not_eq_true', Bool.not_eq_false'] at h h'); simp only [↓h, ↓h', go_sem, Nat.reduceEqDiff, Nat.reduceLT, ↓reduceIte, Nat.reduceAdd, Nat.reduceMul, Nat.reduceLeDiff, Nat.reduceSub, Nat.reduceBEq, Int.reduceEq, Int.reduceLT, Int.reduceLE, Int.reduceToNat, Int.reduceAdd, Int.reduceSub, Int.reduceNeg, UInt8.reduceToNat]; rfl); (· intro h h'; (try simp only [Bool.and_eq_true, Bool.not_eq_true', Bool.not_eq_false'] at h h'); simp only [↓h, ↓h', go_sem, Nat.reduceEqDiff, Nat.reduceLT, ↓reduceIte, Nat.reduceAdd, Nat.reduceMul, Nat.reduceLeDiff, Nat.reduceSub, Nat.reduceBEq, Int.reduceEq, Int.reduceLT, Int.reduceLE, Int.reduceToNat, Int.reduceAdd, Int.reduceSub, Int.reduceNeg, UInt8.reduceToNat]; rfl); simp only [go_sem, Nat.reduceEqDiff, Nat.reduceLT, ↓reduceIte, Nat.reduceAdd, Nat.reduceMul, Nat.reduceLeDiff, Nat.reduceSub, Nat.reduceBEq, Int.reduceEq, Int.reduceLT, Int.reduceLE, Int.reduceToNat, Int.reduceAdd, Int.reduceSub, Int.reduceNeg, UInt8.reduceToNat])
    | (apply e_pk E; (· decide); simp only [go_sem, Nat.reduceEqDiff, Nat.reduceLT, ↓reduceIte, Nat.reduceAdd, Nat.reduceMul, Nat.reduceLeDiff, Nat.reduceSub, Nat.reduceBEq, Int.reduceEq, Int.reduceLT, Int.reduceLE, Int.reduceToNat, Int.reduceAdd, Int.reduceSub, Int.reduceNeg, UInt8.reduceToNat]))
  refine c_frB E [2] (.agg [.sl (some 4) (ns.map nodeD), i64 root]) rfl rfl ?_
  simp only [go_sem, Nat.reduceEqDiff, Nat.reduceLT, ↓reduceIte, Nat.reduceAdd, Nat.reduceMul, Nat.reduceLeDiff, Nat.reduceSub, Nat.reduceBEq, Int.reduceEq, Int.reduceLT, Int.reduceLE, Int.reduceToNat, Int.reduceAdd, Int.reduceSub, Int.reduceNeg, UInt8.reduceToNat]
  refine c_frB E [3] (.agg [.sl (some 4) (ns.map nodeD), i64 root]) rfl rfl ?_
  simp only [go_sem, Nat.reduceEqDiff, Nat.reduceLT, ↓reduceIte, Nat.reduceAdd, Nat.reduceMul, Nat.reduceLeDiff, Nat.reduceSub, Nat.reduceBEq, Int.reduceEq, Int.reduceLT, Int.reduceLE, Int.reduceToNat, Int.reduceAdd, Int.reduceSub, Int.reduceNeg, UInt8.reduceToNat]
  refine loopP_e E (X := { i : Nat // i ≤ ns.length }) (fun x => [(2, .d (.ptr (.agg [.sl (some 4) (ns.map nodeD), i64 root]))), (3, .d (.ptr (.agg [.sl (some 4) (ns.map nodeD), i64 root]))), (5, .d (i64 x.1))]) (fun x => ns.length - x.1) rfl ⟨0, Nat.zero_le _⟩ ?_ ?_
  · simp only [go_sem, Nat.reduceEqDiff, Nat.reduceLT, ↓reduceIte, Nat.reduceAdd, Nat.reduceMul, Nat.reduceLeDiff, Nat.reduceSub, Nat.reduceBEq, Int.reduceEq, Int.reduceLT, Int.reduceLE, Int.reduceToNat, Int.reduceAdd, Int.reduceSub, Int.reduceNeg, UInt8.reduceToNat]
    all_goals rfl
  rintro ⟨i, hi⟩ E'
  refine hideQ E' fun Q' hQ E' => ?_
  simp only at hi ⊢
  simp only [go_sem, Nat.reduceEqDiff, Nat.reduceLT, ↓reduceIte, Nat.reduceAdd, Nat.reduceMul, Nat.reduceLeDiff, Nat.reduceSub, Nat.reduceBEq, Int.reduceEq, Int.reduceLT, Int.reduceLE, Int.reduceToNat, Int.reduceAdd, Int.reduceSub, Int.reduceNeg, UInt8.reduceToNat]
  refine e_ifd E' (fun h1 => ?_) (fun h1 => ?_) <;> simp only [go_sem, Nat.reduceEqDiff, Nat.reduceLT, ↓reduceIte, Nat.reduceAdd, Nat.reduceMul, Nat.reduceLeDiff, Nat.reduceSub, Nat.reduceBEq, Int.reduceEq, Int.reduceLT, Int.reduceLE, Int.reduceToNat, Int.reduceAdd, Int.reduceSub, Int.reduceNeg, UInt8.reduceToNat]
  · have hi' : i < ns.length := by omega
    have hin : nd ns i ∈ ns := by rw [nd_eq hi']; exact List.getElem_mem hi'
    have hfx := hfl _ hin
    refine region_xv mixed E' fun X => ?_
    simp only [go_sem, Nat.reduceEqDiff, Nat.reduceLT, ↓reduceIte, Nat.reduceAdd, Nat.reduceMul, Nat.reduceLeDiff, Nat.reduceSub, Nat.reduceBEq, Int.reduceEq, Int.reduceLT, Int.reduceLE, Int.reduceToNat, Int.reduceAdd, Int.reduceSub, Int.reduceNeg, UInt8.reduceToNat]
    refine ⟨⟨by omega, by omega⟩, ?_⟩
    rw [nodes_nd hi']
    simp only [go_sem, Nat.reduceEqDiff, Nat.reduceLT, ↓reduceIte, Nat.reduceAdd, Nat.reduceMul, Nat.reduceLeDiff, Nat.reduceSub, Nat.reduceBEq, Int.reduceEq, Int.reduceLT, Int.reduceLE, Int.reduceToNat, Int.reduceAdd, Int.reduceSub, Int.reduceNeg, UInt8.reduceToNat]
    refine ⟨⟨by omega, by omega⟩, ?_⟩
    rw [nodes_nd hi']
    simp only [go_sem, Nat.reduceEqDiff, Nat.reduceLT, ↓reduceIte, Nat.reduceAdd, Nat.reduceMul, Nat.reduceLeDiff, Nat.reduceSub, Nat.reduceBEq, Int.reduceEq, Int.reduceLT, Int.reduceLE, Int.reduceToNat, Int.reduceAdd, Int.reduceSub, Int.reduceNeg, UInt8.reduceToNat]
    refine ⟨by decide +kernel, ?_⟩
    repeat (first
      | (apply e_gm E'; (· simp only [go_sem, Nat.reduceEqDiff, Nat.reduceLT, ↓reduceIte, Nat.reduceAdd, Nat.reduceMul, Nat.reduceLeDiff, Nat.reduceSub, Nat.reduceBEq, Int.reduceEq, Int.reduceLT, Int.reduceLE, Int.reduceToNat, Int.reduceAdd, Int.reduceSub, Int.reduceNeg, UInt8.reduceToNat]); (· intro h; (try simp only [Bool.and_eq_true, Bool.not_eq_true', Bool.not_eq_false'] at h); simp only [↓h, go_sem, Nat.reduceEqDiff, Nat.reduceLT, ↓reduceIte, Nat.reduceAdd, Nat.reduceMul, Nat.reduceLeDiff, Nat.reduceSub, Nat.reduceBEq, Int.reduceEq, Int.reduceLT, Int.reduceLE, Int.reduceToNat, Int.reduceAdd, Int.reduceSub, Int.reduceNeg, UInt8.reduceToNat]; rfl); simp only [go_sem, Nat.reduceEqDiff, Nat.reduceLT, ↓reduceIte, Nat.reduceAdd, Nat.reduceMul, Nat.reduceLeDiff, Nat.reduceSub, Nat.reduceBEq, Int.reduceEq, Int.reduceLT, Int.reduceLE, Int.reduceToNat, Int.reduceAdd, Int.reduceSub, Int.reduceNeg, UInt8.reduceToNat])
      | (apply e_gpk E'; (· simp only [go_sem, Nat.reduceEqDiff, Nat.reduceLT, ↓reduceIte, Nat.reduceAdd, Nat.reduceMul, Nat.reduceLeDiff, Nat.reduceSub, Nat.reduceBEq, Int.reduceEq, Int.reduceLT, Int.reduceLE, Int.reduceToNat, Int.reduceAdd, Int.reduceSub, Int.reduceNeg, UInt8.reduceToNat]); (· intro h; (try simp only [Bool.and_eq_true, Bool.not_eq_true', Bool.not_eq_false'] at h); simp only [↓h, go_sem, Nat.reduceEqDiff, Nat.reduceLT, ↓reduceIte, Nat.reduceAdd, Nat.reduceMul, Nat.reduceLeDiff, Nat.reduceSub, Nat.reduceBEq, Int.reduceEq, Int.reduceLT, Int.reduceLE, Int.reduceToNat, Int.reduceAdd, Int.reduceSub, Int.reduceNeg, UInt8.reduceToNat]; rfl); (· intro h; (try simp only [Bool.and_eq_true, Bool.not_eq_true', Bool.not_eq_false'] at h); simp only [↓h, go_sem, Nat.reduceEqDiff, Nat.reduceLT, ↓reduceIte, Nat.reduceAdd, Nat.reduceMul, Nat.reduceLeDiff, Nat.reduceSub, Nat.reduceBEq, Int.reduceEq, Int.reduceLT, Int.reduceLE, Int.reduceToNat, Int.reduceAdd, Int.reduceSub, Int.reduceNeg, UInt8.reduceToNat]; rfl); simp only [go_sem, Nat.reduceEqDiff, Nat.reduceLT, ↓reduceIte, Nat.reduceAdd, Nat.reduceMul, Nat.reduceLeDiff, Nat.reduceSub, Nat.reduceBEq, Int.reduceEq, Int.reduceLT, Int.reduceLE, Int.reduceToNat, Int.reduceAdd, Int.reduceSub, Int.reduceNeg, UInt8.reduceToNat])
      | (apply e_gm2 E'; (· simp only [go_sem, Nat.reduceEqDiff, Nat.reduceLT, ↓reduceIte, Nat.reduceAdd, Nat.reduceMul, Nat.reduceLeDiff, Nat.reduceSub, Nat.reduceBEq, Int.reduceEq, Int.reduceLT, Int.reduceLE, Int.reduceToNat, Int.reduceAdd, Int.reduceSub, Int.reduceNeg, UInt8.reduceToNat]); (· rfl); (· intro h h'; (try simp only [Bool.and_eq_true, Bool.not_eq_true', Bool.not_eq_false'] at h h'); simp only [↓h, ↓h', go_sem, Nat.reduceEqDiff, Nat.reduceLT, ↓reduceIte, Nat.reduceAdd, Nat.reduceMul, Nat.reduceLeDiff, Nat.reduceSub, Nat.reduceBEq, Int.reduceEq, Int.reduceLT, Int.reduceLE, Int.reduceToNat, Int.reduceAdd, Int.reduceSub, Int.reduceNeg, UInt8.reduceToNat]; rfl); simp only [go_sem, Nat.reduceEqDiff, Nat.reduceLT, ↓reduceIte, Nat.reduceAdd, Nat.reduceMul, Nat.reduceLeDiff, Nat.reduceSub, Nat.reduceBEq, Int.reduceEq, Int.reduceLT, Int.reduceLE, Int.reduceToNat, Int.reduceAdd, Int.reduceSub, Int.reduceNeg, UInt8.reduceToNat])
      | (apply e_gpk2 E'; (· simp only [go_sem, Nat.reduceEqDiff, Nat.reduceLT, ↓reduceIte, Nat.reduceAdd, Nat.reduceMul, Nat.reduceLeDiff, Nat.reduceSub, Nat.reduceBEq, Int.reduceEq, Int.reduceLT, Int.reduceLE, Int.reduceToNat, Int.reduceAdd, Int.reduceSub, Int.reduceNeg, UInt8.reduceToNat]); (· rfl); (· intro h h'; (try simp only [Bool.and_eq_true, Bool.not_eq_true', Bool.not_eq_false'] at h h'); simp only [↓h, ↓h', go_sem, Nat.reduceEqDiff, Nat.reduceLT, ↓reduceIte, Nat.reduceAdd, Nat.reduceMul, Nat.reduceLeDiff, Nat.reduceSub, Nat.reduceBEq, Int.reduceEq, Int.reduceLT, Int.reduceLE, Int.reduceToNat, Int.reduceAdd, Int.reduceSub, Int.reduceNeg, UInt8.reduceToNat]; rfl); (· intro h h'; (try simp only [Bool.and_eq_true, Bool.not_eq_true', Bool.not_eq_false'] at h h'); simp only [↓h, ↓h', go_sem, Nat.reduceEqDiff, Nat.reduceLT, ↓reduceIte, Nat.reduceAdd, Nat.reduceMul, Nat.reduceLeDiff, Nat.reduceSub, Nat.reduceBEq, Int.reduceEq, Int.reduceLT, Int.reduceLE, Int.reduceToNat, Int.reduceAdd, Int.reduceSub, Int.reduceNeg, UInt8.reduceToNat]; rfl); simp only [go_sem, Nat.reduceEqDiff, Nat.reduceLT, ↓reduceIte, Nat.reduceAdd, Nat.reduceMul, Nat.reduceLeDiff, Nat.reduceSub, Nat.reduceBEq, Int.reduceEq, Int.reduceLT, Int.reduceLE, Int.reduceToNat, Int.reduceAdd, Int.reduceSub, Int.reduceNeg, UInt8.reduceToNat])
      | (apply e_pk E'; (· decide); simp only [go_sem, Nat.reduceEqDiff, Nat.reduceLT, ↓reduceIte, Nat.reduceAdd, Nat.reduceMul, Nat.reduceLeDiff, Nat.reduceSub, Nat.reduceBEq, Int.reduceEq, Int.reduceLT, Int.reduceLE, Int.reduceToNat, Int.reduceAdd, Int.reduceSub, Int.reduceNeg, UInt8.reduceToNat]))
    refine c_frB E' [6] (.agg [i64 (nd ns i).k, i64 (nd ns i).a, i64 (nd ns i).b, .sl (some 2) ((nd ns i).l.map fldD)]) rfl rfl ?_
    simp only [go_sem, Nat.reduceEqDiff, Nat.reduceLT, ↓reduceIte, Nat.reduceAdd, Nat.reduceMul, Nat.reduceLeDiff, Nat.reduceSub, Nat.reduceBEq, Int.reduceEq, Int.reduceLT, Int.reduceLE, Int.reduceToNat, Int.reduceAdd, Int.reduceSub, Int.reduceNeg, UInt8.reduceToNat]
    refine c_frB E' [7] (.agg [i64 (nd ns i).k, i64 (nd ns i).a, i64 (nd ns i).b, .sl (some 2) ((nd ns i).l.map fldD)]) rfl rfl ?_
    simp only [go_sem, Nat.reduceEqDiff, Nat.reduceLT, ↓reduceIte, Nat.reduceAdd, Nat.reduceMul, Nat.reduceLeDiff, Nat.reduceSub, Nat.reduceBEq, Int.reduceEq, Int.reduceLT, Int.reduceLE, Int.reduceToNat, Int.reduceAdd, Int.reduceSub, Int.reduceNeg, UInt8.reduceToNat]
    refine loopP_e E' (X := { j : Nat // j ≤ (nd ns i).l.length }) (fun x => [(2, .d (.ptr (.agg [.sl (some 4) (ns.map nodeD), i64 root]))), (3, .d (.ptr (.agg [.sl (some 4) (ns.map nodeD), i64 root]))), (5, .d (i64 i)),
      (6, .d (.ptr (.agg [i64 (nd ns i).k, i64 (nd ns i).a, i64 (nd ns i).b, .sl (some 2) ((nd ns i).l.map fldD)]))), (7, .d (.ptr (.agg [i64 (nd ns i).k, i64 (nd ns i).a, i64 (nd ns i).b, .sl (some 2) ((nd ns i).l.map fldD)]))), (8, .d (i64 x.1))]) (fun x => (nd ns i).l.length - x.1) rfl ⟨0, Nat.zero_le _⟩ ?_ ?_
    · simp only [go_sem, Nat.reduceEqDiff, Nat.reduceLT, ↓reduceIte, Nat.reduceAdd, Nat.reduceMul, Nat.reduceLeDiff, Nat.reduceSub, Nat.reduceBEq, Int.reduceEq, Int.reduceLT, Int.reduceLE, Int.reduceToNat, Int.reduceAdd, Int.reduceSub, Int.reduceNeg, UInt8.reduceToNat]
      all_goals rfl
    rintro ⟨j, hj⟩ E3
    refine hideQ E3 fun Q3 hQ3 E4 => ?_
    simp only at hj ⊢
    simp only [go_sem, Nat.reduceEqDiff, Nat.reduceLT, ↓reduceIte, Nat.reduceAdd, Nat.reduceMul, Nat.reduceLeDiff, Nat.reduceSub, Nat.reduceBEq, Int.reduceEq, Int.reduceLT, Int.reduceLE, Int.reduceToNat, Int.reduceAdd, Int.reduceSub, Int.reduceNeg, UInt8.reduceToNat]
    refine e_ifd E4 (fun h4 => ?_) (fun h4 => ?_) <;> simp only [go_sem, Nat.reduceEqDiff, Nat.reduceLT, ↓reduceIte, Nat.reduceAdd, Nat.reduceMul, Nat.reduceLeDiff, Nat.reduceSub, Nat.reduceBEq, Int.reduceEq, Int.reduceLT, Int.reduceLE, Int.reduceToNat, Int.reduceAdd, Int.reduceSub, Int.reduceNeg, UInt8.reduceToNat]
    · have h4' : j < (nd ns i).l.length := by omega
      refine region_xv mixed E4 fun X => ?_
      simp only [go_sem, Nat.reduceEqDiff, Nat.reduceLT, ↓reduceIte, Nat.reduceAdd, Nat.reduceMul, Nat.reduceLeDiff, Nat.reduceSub, Nat.reduceBEq, Int.reduceEq, Int.reduceLT, Int.reduceLE, Int.reduceToNat, Int.reduceAdd, Int.reduceSub, Int.reduceNeg, UInt8.reduceToNat]
      refine ⟨⟨by omega, by omega⟩, ?_⟩
      rw [flds_get' h4']
      simp only [go_sem, Nat.reduceEqDiff, Nat.reduceLT, ↓reduceIte, Nat.reduceAdd, Nat.reduceMul, Nat.reduceLeDiff, Nat.reduceSub, Nat.reduceBEq, Int.reduceEq, Int.reduceLT, Int.reduceLE, Int.reduceToNat, Int.reduceAdd, Int.reduceSub, Int.reduceNeg, UInt8.reduceToNat]
      refine ⟨⟨by omega, by omega⟩, ?_⟩
      rw [flds_get' h4']
      simp only [go_sem, Nat.reduceEqDiff, Nat.reduceLT, ↓reduceIte, Nat.reduceAdd, Nat.reduceMul, Nat.reduceLeDiff, Nat.reduceSub, Nat.reduceBEq, Int.reduceEq, Int.reduceLT, Int.reduceLE, Int.reduceToNat, Int.reduceAdd, Int.reduceSub, Int.reduceNeg, UInt8.reduceToNat]
      refine x_neS X (b := true) str60 (by rw [ti60]) (by simp only [go_sem, Nat.reduceEqDiff, Nat.reduceLT, ↓reduceIte, Nat.reduceAdd, Nat.reduceMul, Nat.reduceLeDiff, Nat.reduceSub, Nat.reduceBEq, Int.reduceEq, Int.reduceLT, Int.reduceLE, Int.reduceToNat, Int.reduceAdd, Int.reduceSub, Int.reduceNeg, UInt8.reduceToNat]) rfl rfl (by simp [eqS, eqP, kOk, ti9, ti3]) ?_
      simp only [go_sem, Nat.reduceEqDiff, Nat.reduceLT, ↓reduceIte, Nat.reduceAdd, Nat.reduceMul, Nat.reduceLeDiff, Nat.reduceSub, Nat.reduceBEq, Int.reduceEq, Int.reduceLT, Int.reduceLE, Int.reduceToNat, Int.reduceAdd, Int.reduceSub, Int.reduceNeg, UInt8.reduceToNat]
      refine ⟨by decide +kernel, ?_⟩
      rw [hQ3]
      simp only [go_sem, Nat.reduceEqDiff, Nat.reduceLT, ↓reduceIte, Nat.reduceAdd, Nat.reduceMul, Nat.reduceLeDiff, Nat.reduceSub, Nat.reduceBEq, Int.reduceEq, Int.reduceLT, Int.reduceLE, Int.reduceToNat, Int.reduceAdd, Int.reduceSub, Int.reduceNeg, UInt8.reduceToNat]
      refine ⟨⟨j + 1, by omega⟩, by show (nd ns i).l.length - (j + 1) < _; omega, ?_⟩
      rw [w64_in ⟨by omega, by omega⟩]
      rfl
    · rw [hQ3]
      simp only [go_sem, Nat.reduceEqDiff, Nat.reduceLT, ↓reduceIte, Nat.reduceAdd, Nat.reduceMul, Nat.reduceLeDiff, Nat.reduceSub, Nat.reduceBEq, Int.reduceEq, Int.reduceLT, Int.reduceLE, Int.reduceToNat, Int.reduceAdd, Int.reduceSub, Int.reduceNeg, UInt8.reduceToNat]
      rw [hQ]
      simp only [go_sem, Nat.reduceEqDiff, Nat.reduceLT, ↓reduceIte, Nat.reduceAdd, Nat.reduceMul, Nat.reduceLeDiff, Nat.reduceSub, Nat.reduceBEq, Int.reduceEq, Int.reduceLT, Int.reduceLE, Int.reduceToNat, Int.reduceAdd, Int.reduceSub, Int.reduceNeg, UInt8.reduceToNat]
      refine ⟨⟨i + 1, by omega⟩, by show ns.length - (i + 1) < _; omega, ?_⟩
      rw [w64_in ⟨by omega, by omega⟩]
      rfl
  · rw [hQ]
    simp only [go_sem, Nat.reduceEqDiff, Nat.reduceLT, ↓reduceIte, Nat.reduceAdd, Nat.reduceMul, Nat.reduceLeDiff, Nat.reduceSub, Nat.reduceBEq, Int.reduceEq, Int.reduceLT, Int.reduceLE, Int.reduceToNat, Int.reduceAdd, Int.reduceSub, Int.reduceNeg, UInt8.reduceToNat]
theorem right_zero {n : TN} {all : Int} (h : rightB n all = true) (hp : pairZ n.k = false) : n.b = 0 ∧ (n.k ≠ 11 → n.a = 0) := by
  simp only [rightB, hp, Bool.and_eq_true, Bool.not_eq_true', Bool.or_eq_false_iff, Bool.not_false, Bool.true_and, Bool.and_eq_false_iff, decide_eq_false_iff_not] at h
  obtain ⟨⟨⟨⟨_, h1⟩, _⟩, _⟩, _⟩ := h
  refine ⟨by omega, fun h2 => ?_⟩
  rcases h1.2 with g | g
  · exact absurd h2 g
  · omega
/-- A spot as a node of the document's twice as many. -/
def enc (q : Spot) : Int := 2 * q.1 + (q.2 - 1)
theorem enc_inj {ns : List TN} {a b : Spot} (ha : okS ns a) (hb : okS ns b) (h : enc a = enc b) : a = b := by
  obtain ⟨a1, a2⟩ := a
  obtain ⟨b1, b2⟩ := b
  obtain ⟨_, ha⟩ := ha
  obtain ⟨_, hb⟩ := hb
  simp only [enc] at ha hb h
  have h1 : a1 = b1 := by omega
  have h2 : a2 = b2 := by omega
  rw [h1, h2]
theorem enc_kids {ns : List TN} {x : Nat} {s : Int} (hx : x < ns.length) (hs : s = 1 ∨ s = 2) : nd (allL ns) (enc ((x : Int), s)).toNat = allN (nd ns x) (s - 1) := by
  have e : (enc ((x : Int), s)).toNat = 2 * x + (s - 1).toNat := by simp only [enc]; omega
  rw [e, allL_nd (by omega), allJ]
  have h1 : (2 * x + (s - 1).toNat) / 2 = x := by omega
  have h2 : (((2 * x + (s - 1).toNat) % 2 : Nat) : Int) = s - 1 := by omega
  rw [h1, h2]
theorem kids_enc {ns : List TN} {q : Spot} (h : okS ns q) : kidsI (allL ns) (enc q) = (kidsS ns q).map enc := by
  obtain ⟨a, s⟩ := q
  obtain ⟨⟨h1, h2⟩, h3⟩ := h
  simp only at h1 h2 h3
  obtain ⟨x, rfl⟩ : ∃ x : Nat, a = (x : Int) := ⟨a.toNat, by omega⟩
  rw [kidsI, enc_kids (by omega) h3, kids_allN _ _ (by omega)]
  show (kidsN (nd ns x) (1 + (s - 1))).map enc = (kidsN (nd ns x) s).map enc
  rw [show 1 + (s - 1) = s by omega]
theorem idx_enc {ns : List TN} {q : Spot} (hq : okS ns q) : ∀ l : List Spot, (∀ s ∈ l, okS ns s) → (l.map enc).idxOf (enc q) = l.idxOf q
  | [], _ => rfl
  | a :: l, h => by
    have ih := idx_enc hq l fun s hs => h s (List.mem_cons_of_mem _ hs)
    rw [List.map_cons, List.idxOf_cons, List.idxOf_cons, ih]
    by_cases e : a = q
    · simp [e]
    · have : enc a ≠ enc q := fun g => e (enc_inj (h a List.mem_cons_self) hq g)
      have e1 : (enc a == enc q) = false := by simpa using this
      have e2 : (a == q) = false := by simpa using e
      rw [e1, e2]
theorem spots_enc {ns : List TN} {root : Int} (hk : KidIn ns) (hr : okI ns root) {l : List Spot} {l' : List Int} (h : Spots ns root l) (h' : Belw (allL ns) (2 * root) l') : l' = l.map enc := by
  have := (h.1.map (kb := kidsI (allL ns)) (f := enc) (ok := okS ns) (fun a b ha hb e => enc_inj ha hb e) (fun a ha => ⟨kids_enc ha, kids_ok hk ha⟩) (by simp) (fun a ha => by
    rw [List.mem_singleton.1 ha]
    exact ⟨hr, .inl rfl⟩)).1
  have e : [(root, (1 : Int))].map enc = [2 * root] := by simp [enc]
  rw [e] at this
  exact h'.1.fn this
theorem split_norm {ns : List TN} {root : Int} (hrs : rightsB ns = true) {l : List Spot} (h : Spots ns root l) {q : Spot} (hq : q ∈ l) : splitN ns l q = normN (allL ns) (l.map enc) (enc q) := by
  have hok := h.2.1 q hq
  have hkids := h.kids q hq
  have hke := kids_enc hok
  obtain ⟨a, s⟩ := q
  obtain ⟨⟨h1, h2⟩, h3⟩ := hok
  simp only at h1 h2 h3
  obtain ⟨x, rfl⟩ : ∃ x : Nat, a = (x : Int) := ⟨a.toNat, by omega⟩
  have hx : x < ns.length := by omega
  have hrt := rights_nd hrs hx
  have hK : (kidsI (allL ns) (enc ((x : Int), s))).map (atI (l.map enc)) = (kidsN (nd ns x) s).map (atS l) := by
    rw [hke, List.map_map]
    refine List.map_congr_left fun p hp => ?_
    have := idx_enc (h.2.1 p (hkids p hp)) l h.2.1
    simp only [Function.comp_def, atI, atS, this]
  rw [normN, hK, enc_kids hx h3]
  have hget : ∀ i, i < (kidsN (nd ns x) s).length → ((kidsN (nd ns x) s).map (atS l)).getD i 0 = atS l ((kidsN (nd ns x) s).getD i (0, 0)) := fun i hi => by simp [hi]
  have hal : (allN (nd ns x) (s - 1)).l.length = (nd ns x).l.length := by simp [allN, aflds_len]
  have hfl : fsplit ns l ((x : Int), s) (nd ns x).l.length = wflds (allN (nd ns x) (s - 1)) ((kidsN (nd ns x) s).map (atS l)) (allN (nd ns x) (s - 1)).l.length := by
    rw [hal]
    refine List.map_congr_left fun i hi => ?_
    have hi : i < (nd ns x).l.length := List.mem_range.1 hi
    have hw := kids_wide hrt hi s
    have e1 : fnm (allN (nd ns x) (s - 1)).l i = fnm (nd ns x).l i := by simp [fnm, allN, aflds, afld, hi]
    rw [wfld, e1, hget i (by omega)]
    show (fnm (nd ns x).l i, if i < (nd ns x).l.length then _ else _) = _
    rw [if_pos hi]
    rfl
  have hk : (allN (nd ns x) (s - 1)).k = (nd ns x).k := rfl
  show (⟨(nd ns x).k, if pairZ (nd ns x).k then atS l ((kidsN (nd ns x) s).getD 0 (0, 0)) else (nd ns x).a, if pairZ (nd ns x).k then atS l ((kidsN (nd ns x) s).getD 1 (0, 0)) else (nd ns x).b, fsplit ns l ((x : Int), s) (nd ns x).l.length⟩ : TN) = _
  rw [hfl, withN, hk]
  by_cases hp : pairZ (nd ns x).k = true
  · have hl := kids_pair hp s
    rw [if_pos hp, if_pos hp, if_pos hp, if_pos hp, hget 0 (by omega), hget 1 (by omega)]
  · have hp : pairZ (nd ns x).k = false := by simpa using hp
    obtain ⟨g1, g2⟩ := right_zero hrt hp
    have h6 : (nd ns x).k ≠ 6 := fun e => by simp [pairZ, e] at hp
    have hl : latZ (nd ns x).k = false := by
      cases hl : latZ (nd ns x).k with
      | false => rfl
      | true => rw [lat_pair hl] at hp; cases hp
    have ha : (allN (nd ns x) (s - 1)).a = (nd ns x).a := by
      show (if _ then _ else if _ then _ else _) = _
      rw [if_neg h6, hl]; rfl
    rw [hp, g1, ha]
    simp only [Bool.false_eq_true, if_false]
    congr 1
    split
    · rfl
    · rename_i h11; exact g2 h11
/-- What is split is as the document says. -/
theorem split_same {ns : List TN} {root : Int} (hrs : rightsB ns = true) (hr : okI ns root) {l : List Spot} {l' : List Int} (h : Spots ns root l) (h' : Belw (allL ns) (2 * root) l') :
    l'.map (normN (allL ns) l') = l.map (splitN ns l) ∧ (l'.map fun x => 1 + x.tmod 2) = l.map (·.2) := by
  obtain rfl := spots_enc (rights_kids hrs) hr h h'
  rw [List.map_map, List.map_map]
  refine ⟨List.map_congr_left fun q hq => (split_norm hrs h hq).symm, List.map_congr_left fun q hq => ?_⟩
  obtain ⟨⟨h1, _⟩, h3⟩ := h.2.1 q hq
  simp only [Function.comp_def, enc]
  rw [Int.tmod_eq_emod_of_nonneg (by omega)]
  omega
end Go.Proofs.Ytmplpdjddjiioaa
