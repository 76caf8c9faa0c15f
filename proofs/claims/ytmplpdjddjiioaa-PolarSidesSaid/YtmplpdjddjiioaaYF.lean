/-
  The chapter's way to the sides, walked.
-/
import Derived.Test.YtmplpdjddjiioaaYE
set_option linter.all false
namespace Go.Proofs.Ytmplpdjddjiioaa
open Go.Ab
theorem mix64 {c w : Int} (hc : 0 ≤ c ∧ c ≤ 3) (hw : 0 ≤ w ∧ w ≤ 3) : w64 ((if w.tmod 2 > c.tmod 2 then w.tmod 2 else c.tmod 2) + w64 (2 * (if w64 (w.tdiv 2) > w64 (c.tdiv 2) then w64 (w.tdiv 2) else w64 (c.tdiv 2)))) = mixZ c w := by
  have h1 : c = 0 ∨ c = 1 ∨ c = 2 ∨ c = 3 := by omega
  have h2 : w = 0 ∨ w = 1 ∨ w = 2 ∨ w = 3 := by omega
  rcases h1 with rfl | rfl | rfl | rfl <;> rcases h2 with rfl | rfl | rfl | rfl <;> decide
theorem wasZ_range (ns : List TN) (L : List Spot) (i j : Nat) : 0 ≤ wasZ ns L i j ∧ wasZ ns L i j ≤ 3 := by
  have h := sd_range L i
  unfold wasZ
  split
  · have : sd L i = 0 ∨ sd L i = 1 ∨ sd L i = 2 ∨ sd L i = 3 := by omega
    rcases this with e | e | e | e <;> rw [e] <;> decide
  · exact h
theorem turn64 {w : Int} (h : 0 ≤ w ∧ w ≤ 3) : w64 (w64 (w.tmod 2 * 2) + w64 (w.tdiv 2)) = w.tmod 2 * 2 + w.tdiv 2 := by
  have : w = 0 ∨ w = 1 ∨ w = 2 ∨ w = 3 := by omega
  rcases this with rfl | rfl | rfl | rfl <;> decide
abbrev cloTo (ns : List TN) (L : List Spot) (N : Nat) : Prop := ∀ i, i < N → ∀ j, j < (kidsL (nd ns i)).length → clo ns L i j
set_option maxHeartbeats 1000000 in
theorem f19_ok {G} (ns : List TN) (root : Int) (hN : ns.length ≤ 2000) (hfl : ∀ n ∈ ns, n.l.length ≤ 1000000) (hk : KidIn ns) (hr : 0 ≤ root ∧ root < ns.length) {l : List Spot} (hl : Spots ns root l) :
    HP Try.prog G 19 [typeS ns root] (fun r => r = .d (intsD (sdL ns.length l))) := by
  refine funZ_ok Try.func19 rfl (by decide +kernel) (by simp [Try.ntmps19]) (veil fun E => ?_)
  unfold typeS
  obtain ⟨hr1, hr2⟩ := hr
  simp only [go_sem, Nat.reduceEqDiff, Nat.reduceLT, ↓reduceIte, Nat.reduceAdd, Nat.reduceMul, Nat.reduceLeDiff, Nat.reduceSub, Nat.reduceBEq, Int.reduceEq, Int.reduceLT, Int.reduceLE, Int.reduceToNat, Int.reduceAdd, Int.reduceSub, Int.reduceNeg, UInt8.reduceToNat]
  refine ⟨⟨by omega, by omega, by omega, by omega⟩, ⟨by omega, by omega⟩, ?_⟩
  refine c_frB E [1] (.agg [.sl (some 4) (ns.map nodeD), i64 root]) rfl rfl ?_
  simp only [go_sem, Nat.reduceEqDiff, Nat.reduceLT, ↓reduceIte, Nat.reduceAdd, Nat.reduceMul, Nat.reduceLeDiff, Nat.reduceSub, Nat.reduceBEq, Int.reduceEq, Int.reduceLT, Int.reduceLE, Int.reduceToNat, Int.reduceAdd, Int.reduceSub, Int.reduceNeg, UInt8.reduceToNat]
  rw [sdL_init ⟨hr1, hr2⟩]
  refine loopO_e E (X := { x : List Spot × Bool // Fx ns root l x.1 ∧ (x.2 = false → cloTo ns x.1 ns.length) }) (fun x => [(1, .d (.ptr (.agg [.sl (some 4) (ns.map nodeD), i64 root]))), (3, .vw [14] 0 ns.length), (4, .d (.bool x.1.2))])
    (fun x => [([14], .arr none ((sdL ns.length x.1.1).map i64))]) [14] (fun x => 2 * unseen (univ ns.length) x.1.1 + if x.1.2 then 1 else 0) ⟨([(root, 1)], true), Fx.init hl, by simp⟩ ?_ ?_
  · simp only [go_sem, Nat.reduceEqDiff, Nat.reduceLT, ↓reduceIte, Nat.reduceAdd, Nat.reduceMul, Nat.reduceLeDiff, Nat.reduceSub, Nat.reduceBEq, Int.reduceEq, Int.reduceLT, Int.reduceLE, Int.reduceToNat, Int.reduceAdd, Int.reduceSub, Int.reduceNeg, UInt8.reduceToNat]
    all_goals rfl
  rintro ⟨⟨L, b⟩, hF, hc⟩ E0
  refine hideQ E0 fun Q' hQ E' => ?_
  simp only at hF hc ⊢
  simp only [go_sem, Nat.reduceEqDiff, Nat.reduceLT, ↓reduceIte, Nat.reduceAdd, Nat.reduceMul, Nat.reduceLeDiff, Nat.reduceSub, Nat.reduceBEq, Int.reduceEq, Int.reduceLT, Int.reduceLE, Int.reduceToNat, Int.reduceAdd, Int.reduceSub, Int.reduceNeg, UInt8.reduceToNat]
  refine e_if E' (fun h1 => ?_) (fun h1 => ?_) <;> simp only [go_sem, Nat.reduceEqDiff, Nat.reduceLT, ↓reduceIte, Nat.reduceAdd, Nat.reduceMul, Nat.reduceLeDiff, Nat.reduceSub, Nat.reduceBEq, Int.reduceEq, Int.reduceLT, Int.reduceLE, Int.reduceToNat, Int.reduceAdd, Int.reduceSub, Int.reduceNeg, UInt8.reduceToNat]
  · subst h1
    refine loopO_e E' (X := { y : List Spot × Bool × Nat // y.2.2 ≤ ns.length ∧ Fx ns root l y.1 ∧ unseen (univ ns.length) y.1 ≤ unseen (univ ns.length) L ∧ (y.2.1 = true → unseen (univ ns.length) y.1 < unseen (univ ns.length) L) ∧ (y.2.1 = false → cloTo ns y.1 y.2.2) })
      (fun y => [(1, .d (.ptr (.agg [.sl (some 4) (ns.map nodeD), i64 root]))), (3, .vw [14] 0 ns.length), (4, .d (.bool y.1.2.1)), (5, .d (i64 y.1.2.2))])
      (fun y => [([14], .arr none ((sdL ns.length y.1.1).map i64))]) [14] (fun y => ns.length - y.1.2.2) ⟨(L, false, 0), Nat.zero_le _, hF, Nat.le_refl _, by simp, fun _ i hi => absurd hi (Nat.not_lt_zero _)⟩ ?_ ?_
    · simp only [go_sem, Nat.reduceEqDiff, Nat.reduceLT, ↓reduceIte, Nat.reduceAdd, Nat.reduceMul, Nat.reduceLeDiff, Nat.reduceSub, Nat.reduceBEq, Int.reduceEq, Int.reduceLT, Int.reduceLE, Int.reduceToNat, Int.reduceAdd, Int.reduceSub, Int.reduceNeg, UInt8.reduceToNat]
      all_goals rfl
    rintro ⟨⟨L1, b1, i⟩, hi, hF1, hu1, hb1, hc1⟩ E1
    refine hideQ E1 fun Q1 hQ1 E2 => ?_
    simp only at hi hF1 hu1 hb1 hc1 ⊢
    simp only [go_sem, Nat.reduceEqDiff, Nat.reduceLT, ↓reduceIte, Nat.reduceAdd, Nat.reduceMul, Nat.reduceLeDiff, Nat.reduceSub, Nat.reduceBEq, Int.reduceEq, Int.reduceLT, Int.reduceLE, Int.reduceToNat, Int.reduceAdd, Int.reduceSub, Int.reduceNeg, UInt8.reduceToNat]
    refine e_ifd E2 (fun h2 => ?_) (fun h2 => ?_) <;> simp only [go_sem, Nat.reduceEqDiff, Nat.reduceLT, ↓reduceIte, Nat.reduceAdd, Nat.reduceMul, Nat.reduceLeDiff, Nat.reduceSub, Nat.reduceBEq, Int.reduceEq, Int.reduceLT, Int.reduceLE, Int.reduceToNat, Int.reduceAdd, Int.reduceSub, Int.reduceNeg, UInt8.reduceToNat]
    · have hi' : i < ns.length := by omega
      refine ⟨⟨by omega, by omega⟩, ?_⟩
      rw [nodes_nd hi']
      simp only [go_sem, Nat.reduceEqDiff, Nat.reduceLT, ↓reduceIte, Nat.reduceAdd, Nat.reduceMul, Nat.reduceLeDiff, Nat.reduceSub, Nat.reduceBEq, Int.reduceEq, Int.reduceLT, Int.reduceLE, Int.reduceToNat, Int.reduceAdd, Int.reduceSub, Int.reduceNeg, UInt8.reduceToNat]
      have hin : nd ns i ∈ ns := by rw [nd_eq hi']; exact List.getElem_mem hi'
      refine e_call E2 (f31_ok (nd ns i) (hfl _ hin)) rfl rfl (by simp) ?_
      rintro _ rfl
      unfold intsD
      simp only [go_sem, Nat.reduceEqDiff, Nat.reduceLT, ↓reduceIte, Nat.reduceAdd, Nat.reduceMul, Nat.reduceLeDiff, Nat.reduceSub, Nat.reduceBEq, Int.reduceEq, Int.reduceLT, Int.reduceLE, Int.reduceToNat, Int.reduceAdd, Int.reduceSub, Int.reduceNeg, UInt8.reduceToNat]
      have hki := hk i hi'
      refine loopO_e E2 (X := { z : List Spot × Bool × Nat // z.2.2 ≤ (kidsL (nd ns i)).length ∧ Fx ns root l z.1 ∧ unseen (univ ns.length) z.1 ≤ unseen (univ ns.length) L ∧ (z.2.1 = true → unseen (univ ns.length) z.1 < unseen (univ ns.length) L) ∧ (z.2.1 = false → cloTo ns z.1 i ∧ ∀ j, j < z.2.2 → clo ns z.1 i j) })
        (fun z => [(1, .d (.ptr (.agg [.sl (some 4) (ns.map nodeD), i64 root]))), (3, .vw [14] 0 ns.length), (4, .d (.bool z.1.2.1)), (5, .d (i64 i)), (6, .d (.sl none ((kidsL (nd ns i)).map i64))), (7, .d (i64 z.1.2.2))])
        (fun z => [([14], .arr none ((sdL ns.length z.1.1).map i64))]) [14] (fun z => (kidsL (nd ns i)).length - z.1.2.2) ⟨(L1, b1, 0), Nat.zero_le _, hF1, hu1, hb1, fun e => ⟨hc1 e, fun j hj => absurd hj (Nat.not_lt_zero _)⟩⟩ ?_ ?_
      · simp only [go_sem, Nat.reduceEqDiff, Nat.reduceLT, ↓reduceIte, Nat.reduceAdd, Nat.reduceMul, Nat.reduceLeDiff, Nat.reduceSub, Nat.reduceBEq, Int.reduceEq, Int.reduceLT, Int.reduceLE, Int.reduceToNat, Int.reduceAdd, Int.reduceSub, Int.reduceNeg, UInt8.reduceToNat]
        all_goals rfl
      rintro ⟨⟨L2, b2, j⟩, hj, hF2, hu2, hb2, hc2⟩ E3
      refine hideQ E3 fun Q3 hQ3 E4 => ?_
      simp only at hj hF2 hu2 hb2 hc2 ⊢
      simp only [go_sem, Nat.reduceEqDiff, Nat.reduceLT, ↓reduceIte, Nat.reduceAdd, Nat.reduceMul, Nat.reduceLeDiff, Nat.reduceSub, Nat.reduceBEq, Int.reduceEq, Int.reduceLT, Int.reduceLE, Int.reduceToNat, Int.reduceAdd, Int.reduceSub, Int.reduceNeg, UInt8.reduceToNat]
      refine e_ifd E4 (fun h3 => ?_) (fun h3 => ?_) <;> simp only [go_sem, Nat.reduceEqDiff, Nat.reduceLT, ↓reduceIte, Nat.reduceAdd, Nat.reduceMul, Nat.reduceLeDiff, Nat.reduceSub, Nat.reduceBEq, Int.reduceEq, Int.reduceLT, Int.reduceLE, Int.reduceToNat, Int.reduceAdd, Int.reduceSub, Int.reduceNeg, UInt8.reduceToNat]
      · refine ⟨⟨by omega, by omega⟩, ?_⟩
        rw [sdL_get' hi']
        simp only [go_sem, Nat.reduceEqDiff, Nat.reduceLT, ↓reduceIte, Nat.reduceAdd, Nat.reduceMul, Nat.reduceLeDiff, Nat.reduceSub, Nat.reduceBEq, Int.reduceEq, Int.reduceLT, Int.reduceLE, Int.reduceToNat, Int.reduceAdd, Int.reduceSub, Int.reduceNeg, UInt8.reduceToNat]
        have hj' : j < (kidsL (nd ns i)).length := by omega
        obtain ⟨K, hK⟩ : ∃ K : Nat, (kidsL (nd ns i)).getD j 0 = (K : Int) := by
          have := hki.1 _ (List.getElem_mem hj')
          exact ⟨((kidsL (nd ns i)).getD j 0).toNat, by rw [getD_eq hj']; omega⟩
        have hKN : K < ns.length := by
          have := hki.1 _ (List.getElem_mem hj')
          rw [getD_eq hj'] at hK
          omega
        refine ⟨⟨by omega, by omega⟩, ?_⟩
        rw [nodes_nd hi']
        simp only [go_sem, Nat.reduceEqDiff, Nat.reduceLT, ↓reduceIte, Nat.reduceAdd, Nat.reduceMul, Nat.reduceLeDiff, Nat.reduceSub, Nat.reduceBEq, Int.reduceEq, Int.reduceLT, Int.reduceLE, Int.reduceToNat, Int.reduceAdd, Int.reduceSub, Int.reduceNeg, UInt8.reduceToNat]
        have hj0 : decide ((j : Int) = 0) = decide (j = 0) := by
          rw [Bool.eq_iff_iff, decide_eq_true_iff, decide_eq_true_iff]
          omega
        repeat (first
          | (apply e_gm E4; (· simp only [go_sem, Nat.reduceEqDiff, Nat.reduceLT, ↓reduceIte, Nat.reduceAdd, Nat.reduceMul, Nat.reduceLeDiff, Nat.reduceSub, Nat.reduceBEq, Int.reduceEq, Int.reduceLT, Int.reduceLE, Int.reduceToNat, Int.reduceAdd, Int.reduceSub, Int.reduceNeg, UInt8.reduceToNat]); (· intro h; (try simp only [Bool.and_eq_true, Bool.not_eq_true', Bool.not_eq_false'] at h); simp only [↓h, go_sem, Nat.reduceEqDiff, Nat.reduceLT, ↓reduceIte, Nat.reduceAdd, Nat.reduceMul, Nat.reduceLeDiff, Nat.reduceSub, Nat.reduceBEq, Int.reduceEq, Int.reduceLT, Int.reduceLE, Int.reduceToNat, Int.reduceAdd, Int.reduceSub, Int.reduceNeg, UInt8.reduceToNat]; rfl); simp only [go_sem, Nat.reduceEqDiff, Nat.reduceLT, ↓reduceIte, Nat.reduceAdd, Nat.reduceMul, Nat.reduceLeDiff, Nat.reduceSub, Nat.reduceBEq, Int.reduceEq, Int.reduceLT, Int.reduceLE, Int.reduceToNat, Int.reduceAdd, Int.reduceSub, Int.reduceNeg, UInt8.reduceToNat])
          | (apply e_gpk E4; (· simp only [go_sem, Nat.reduceEqDiff, Nat.reduceLT, ↓reduceIte, Nat.reduceAdd, Nat.reduceMul, Nat.reduceLeDiff, Nat.reduceSub, Nat.reduceBEq, Int.reduceEq, Int.reduceLT, Int.reduceLE, Int.reduceToNat, Int.reduceAdd, Int.reduceSub, Int.reduceNeg, UInt8.reduceToNat]); (· intro h; (try simp only [Bool.and_eq_true, Bool.not_eq_true', Bool.not_eq_false'] at h); simp only [↓h, go_sem, Nat.reduceEqDiff, Nat.reduceLT, ↓reduceIte, Nat.reduceAdd, Nat.reduceMul, Nat.reduceLeDiff, Nat.reduceSub, Nat.reduceBEq, Int.reduceEq, Int.reduceLT, Int.reduceLE, Int.reduceToNat, Int.reduceAdd, Int.reduceSub, Int.reduceNeg, UInt8.reduceToNat]; rfl); (· intro h; (try simp only [Bool.and_eq_true, Bool.not_eq_true', Bool.not_eq_false'] at h); simp only [↓h, go_sem, Nat.reduceEqDiff, Nat.reduceLT, ↓reduceIte, Nat.reduceAdd, Nat.reduceMul, Nat.reduceLeDiff, Nat.reduceSub, Nat.reduceBEq, Int.reduceEq, Int.reduceLT, Int.reduceLE, Int.reduceToNat, Int.reduceAdd, Int.reduceSub, Int.reduceNeg, UInt8.reduceToNat]; rfl); simp only [go_sem, Nat.reduceEqDiff, Nat.reduceLT, ↓reduceIte, Nat.reduceAdd, Nat.reduceMul, Nat.reduceLeDiff, Nat.reduceSub, Nat.reduceBEq, Int.reduceEq, Int.reduceLT, Int.reduceLE, Int.reduceToNat, Int.reduceAdd, Int.reduceSub, Int.reduceNeg, UInt8.reduceToNat])
          | (apply e_gm2 E4; (· simp only [go_sem, Nat.reduceEqDiff, Nat.reduceLT, ↓reduceIte, Nat.reduceAdd, Nat.reduceMul, Nat.reduceLeDiff, Nat.reduceSub, Nat.reduceBEq, Int.reduceEq, Int.reduceLT, Int.reduceLE, Int.reduceToNat, Int.reduceAdd, Int.reduceSub, Int.reduceNeg, UInt8.reduceToNat]); (· rfl); (· intro h h'; (try simp only [Bool.and_eq_true, Bool.not_eq_true', Bool.not_eq_false'] at h h'); simp only [↓h, ↓h', go_sem, Nat.reduceEqDiff, Nat.reduceLT, ↓reduceIte, Nat.reduceAdd, Nat.reduceMul, Nat.reduceLeDiff, Nat.reduceSub, Nat.reduceBEq, Int.reduceEq, Int.reduceLT, Int.reduceLE, Int.reduceToNat, Int.reduceAdd, Int.reduceSub, Int.reduceNeg, UInt8.reduceToNat]; rfl); simp only [go_sem, Nat.reduceEqDiff, Nat.reduceLT, ↓reduceIte, Nat.reduceAdd, Nat.reduceMul, Nat.reduceLeDiff, Nat.reduceSub, Nat.reduceBEq, Int.reduceEq, Int.reduceLT, Int.reduceLE, Int.reduceToNat, Int.reduceAdd, Int.reduceSub, Int.reduceNeg, UInt8.reduceToNat])
          | (apply e_gpk2 E4; (· simp only [go_sem, Nat.reduceEqDiff, Nat.reduceLT, ↓reduceIte, Nat.reduceAdd, Nat.reduceMul, Nat.reduceLeDiff, Nat.reduceSub, Nat.reduceBEq, Int.reduceEq, Int.reduceLT, Int.reduceLE, Int.reduceToNat, Int.reduceAdd, Int.reduceSub, Int.reduceNeg, UInt8.reduceToNat]); (· rfl); (· intro h h'; (try simp only [Bool.and_eq_true, Bool.not_eq_true', Bool.not_eq_false'] at h h'); simp only [↓h, ↓h', go_sem, Nat.reduceEqDiff, Nat.reduceLT, ↓reduceIte, Nat.reduceAdd, Nat.reduceMul, Nat.reduceLeDiff, Nat.reduceSub, Nat.reduceBEq, Int.reduceEq, Int.reduceLT, Int.reduceLE, Int.reduceToNat, Int.reduceAdd, Int.reduceSub, Int.reduceNeg, UInt8.reduceToNat]; rfl); (· intro h h'; (try simp only [Bool.and_eq_true, Bool.not_eq_true', Bool.not_eq_false'] at h h'); simp only [↓h, ↓h', go_sem, Nat.reduceEqDiff, Nat.reduceLT, ↓reduceIte, Nat.reduceAdd, Nat.reduceMul, Nat.reduceLeDiff, Nat.reduceSub, Nat.reduceBEq, Int.reduceEq, Int.reduceLT, Int.reduceLE, Int.reduceToNat, Int.reduceAdd, Int.reduceSub, Int.reduceNeg, UInt8.reduceToNat]; rfl); simp only [go_sem, Nat.reduceEqDiff, Nat.reduceLT, ↓reduceIte, Nat.reduceAdd, Nat.reduceMul, Nat.reduceLeDiff, Nat.reduceSub, Nat.reduceBEq, Int.reduceEq, Int.reduceLT, Int.reduceLE, Int.reduceToNat, Int.reduceAdd, Int.reduceSub, Int.reduceNeg, UInt8.reduceToNat])
          | (apply e_pk E4; (· decide); simp only [go_sem, Nat.reduceEqDiff, Nat.reduceLT, ↓reduceIte, Nat.reduceAdd, Nat.reduceMul, Nat.reduceLeDiff, Nat.reduceSub, Nat.reduceBEq, Int.reduceEq, Int.reduceLT, Int.reduceLE, Int.reduceToNat, Int.reduceAdd, Int.reduceSub, Int.reduceNeg, UInt8.reduceToNat]))
        refine e_if E4 (fun h6 => ?_) (fun h6 => ?_) <;> simp only [go_sem, Nat.reduceEqDiff, Nat.reduceLT, ↓reduceIte, Nat.reduceAdd, Nat.reduceMul, Nat.reduceLeDiff, Nat.reduceSub, Nat.reduceBEq, Int.reduceEq, Int.reduceLT, Int.reduceLE, Int.reduceToNat, Int.reduceAdd, Int.reduceSub, Int.reduceNeg, UInt8.reduceToNat]
        · have hw8 : w64 (w64 ((sd L2 i).tmod 2 * 2) + w64 ((sd L2 i).tdiv 2)) = wasZ ns L2 i j := by
            rw [wasZ, ← hj0, if_pos h6]
            exact turn64 (sd_range L2 i)
          rw [hw8]
          refine ⟨⟨by omega, by omega⟩, ?_⟩
          rw [ints_getD hj', hK]
          simp only [go_sem, Nat.reduceEqDiff, Nat.reduceLT, ↓reduceIte, Nat.reduceAdd, Nat.reduceMul, Nat.reduceLeDiff, Nat.reduceSub, Nat.reduceBEq, Int.reduceEq, Int.reduceLT, Int.reduceLE, Int.reduceToNat, Int.reduceAdd, Int.reduceSub, Int.reduceNeg, UInt8.reduceToNat]
          refine ⟨⟨by omega, by omega⟩, ?_⟩
          rw [sdL_get' hKN]
          simp only [go_sem, Nat.reduceEqDiff, Nat.reduceLT, ↓reduceIte, Nat.reduceAdd, Nat.reduceMul, Nat.reduceLeDiff, Nat.reduceSub, Nat.reduceBEq, Int.reduceEq, Int.reduceLT, Int.reduceLE, Int.reduceToNat, Int.reduceAdd, Int.reduceSub, Int.reduceNeg, UInt8.reduceToNat]
          rw [mix64 (sd_range L2 K) (wasZ_range ns L2 i j), add_val hK]
          refine e_ifd E4 (fun h7 => ?_) (fun h7 => ?_) <;> simp only [go_sem, Nat.reduceEqDiff, Nat.reduceLT, ↓reduceIte, Nat.reduceAdd, Nat.reduceMul, Nat.reduceLeDiff, Nat.reduceSub, Nat.reduceBEq, Int.reduceEq, Int.reduceLT, Int.reduceLE, Int.reduceToNat, Int.reduceAdd, Int.reduceSub, Int.reduceNeg, UInt8.reduceToNat]
          · refine ⟨⟨by omega, by omega⟩, ?_⟩
            rw [ints_getD hj', hK]
            simp only [go_sem, Nat.reduceEqDiff, Nat.reduceLT, ↓reduceIte, Nat.reduceAdd, Nat.reduceMul, Nat.reduceLeDiff, Nat.reduceSub, Nat.reduceBEq, Int.reduceEq, Int.reduceLT, Int.reduceLE, Int.reduceToNat, Int.reduceAdd, Int.reduceSub, Int.reduceNeg, UInt8.reduceToNat]
            refine ⟨⟨by omega, by omega⟩, ?_⟩
            rw [hQ3]
            simp only [go_sem, Nat.reduceEqDiff, Nat.reduceLT, ↓reduceIte, Nat.reduceAdd, Nat.reduceMul, Nat.reduceLeDiff, Nat.reduceSub, Nat.reduceBEq, Int.reduceEq, Int.reduceLT, Int.reduceLE, Int.reduceToNat, Int.reduceAdd, Int.reduceSub, Int.reduceNeg, UInt8.reduceToNat]
            have hlt := add_lt hl hF2 hj' h7
            refine ⟨⟨(L2 ++ addS ns L2 i j, true, j + 1), by show j + 1 ≤ _; omega, hF2.step hl hj', by show unseen _ (L2 ++ addS ns L2 i j) ≤ _; omega, fun _ => by show unseen _ (L2 ++ addS ns L2 i j) < _; omega, fun e => by cases e⟩, by show (kidsL (nd ns i)).length - (j + 1) < _; omega, ⟨rfl, by rw [w64_in ⟨by omega, by omega⟩]; rfl⟩, ?_⟩
            rw [← add_set hK, List.map_set]
          · rw [hQ3]
            simp only [go_sem, Nat.reduceEqDiff, Nat.reduceLT, ↓reduceIte, Nat.reduceAdd, Nat.reduceMul, Nat.reduceLeDiff, Nat.reduceSub, Nat.reduceBEq, Int.reduceEq, Int.reduceLT, Int.reduceLE, Int.reduceToNat, Int.reduceAdd, Int.reduceSub, Int.reduceNeg, UInt8.reduceToNat]
            refine ⟨⟨(L2, b2, j + 1), by show j + 1 ≤ _; omega, hF2, hu2, hb2, fun e => ⟨(hc2 e).1, fun j' hj2 => ?_⟩⟩, by show (kidsL (nd ns i)).length - (j + 1) < _; omega, ⟨rfl, by rw [w64_in ⟨by omega, by omega⟩]; rfl⟩, rfl⟩
            rcases Nat.lt_or_ge j' j with h | h
            · exact (hc2 e).2 j' h
            · obtain rfl : j' = j := by have : j' < j + 1 := hj2; omega
              exact add_clo hK (Classical.not_not.1 h7)
        · have hw8 : sd L2 i = wasZ ns L2 i j := by rw [wasZ, ← hj0, h6]; rfl
          rw [hw8]
          refine ⟨⟨by omega, by omega⟩, ?_⟩
          rw [ints_getD hj', hK]
          simp only [go_sem, Nat.reduceEqDiff, Nat.reduceLT, ↓reduceIte, Nat.reduceAdd, Nat.reduceMul, Nat.reduceLeDiff, Nat.reduceSub, Nat.reduceBEq, Int.reduceEq, Int.reduceLT, Int.reduceLE, Int.reduceToNat, Int.reduceAdd, Int.reduceSub, Int.reduceNeg, UInt8.reduceToNat]
          refine ⟨⟨by omega, by omega⟩, ?_⟩
          rw [sdL_get' hKN]
          simp only [go_sem, Nat.reduceEqDiff, Nat.reduceLT, ↓reduceIte, Nat.reduceAdd, Nat.reduceMul, Nat.reduceLeDiff, Nat.reduceSub, Nat.reduceBEq, Int.reduceEq, Int.reduceLT, Int.reduceLE, Int.reduceToNat, Int.reduceAdd, Int.reduceSub, Int.reduceNeg, UInt8.reduceToNat]
          rw [mix64 (sd_range L2 K) (wasZ_range ns L2 i j), add_val hK]
          refine e_ifd E4 (fun h7 => ?_) (fun h7 => ?_) <;> simp only [go_sem, Nat.reduceEqDiff, Nat.reduceLT, ↓reduceIte, Nat.reduceAdd, Nat.reduceMul, Nat.reduceLeDiff, Nat.reduceSub, Nat.reduceBEq, Int.reduceEq, Int.reduceLT, Int.reduceLE, Int.reduceToNat, Int.reduceAdd, Int.reduceSub, Int.reduceNeg, UInt8.reduceToNat]
          · refine ⟨⟨by omega, by omega⟩, ?_⟩
            rw [ints_getD hj', hK]
            simp only [go_sem, Nat.reduceEqDiff, Nat.reduceLT, ↓reduceIte, Nat.reduceAdd, Nat.reduceMul, Nat.reduceLeDiff, Nat.reduceSub, Nat.reduceBEq, Int.reduceEq, Int.reduceLT, Int.reduceLE, Int.reduceToNat, Int.reduceAdd, Int.reduceSub, Int.reduceNeg, UInt8.reduceToNat]
            refine ⟨⟨by omega, by omega⟩, ?_⟩
            rw [hQ3]
            simp only [go_sem, Nat.reduceEqDiff, Nat.reduceLT, ↓reduceIte, Nat.reduceAdd, Nat.reduceMul, Nat.reduceLeDiff, Nat.reduceSub, Nat.reduceBEq, Int.reduceEq, Int.reduceLT, Int.reduceLE, Int.reduceToNat, Int.reduceAdd, Int.reduceSub, Int.reduceNeg, UInt8.reduceToNat]
            have hlt := add_lt hl hF2 hj' h7
            refine ⟨⟨(L2 ++ addS ns L2 i j, true, j + 1), by show j + 1 ≤ _; omega, hF2.step hl hj', by show unseen _ (L2 ++ addS ns L2 i j) ≤ _; omega, fun _ => by show unseen _ (L2 ++ addS ns L2 i j) < _; omega, fun e => by cases e⟩, by show (kidsL (nd ns i)).length - (j + 1) < _; omega, ⟨rfl, by rw [w64_in ⟨by omega, by omega⟩]; rfl⟩, ?_⟩
            rw [← add_set hK, List.map_set]
          · rw [hQ3]
            simp only [go_sem, Nat.reduceEqDiff, Nat.reduceLT, ↓reduceIte, Nat.reduceAdd, Nat.reduceMul, Nat.reduceLeDiff, Nat.reduceSub, Nat.reduceBEq, Int.reduceEq, Int.reduceLT, Int.reduceLE, Int.reduceToNat, Int.reduceAdd, Int.reduceSub, Int.reduceNeg, UInt8.reduceToNat]
            refine ⟨⟨(L2, b2, j + 1), by show j + 1 ≤ _; omega, hF2, hu2, hb2, fun e => ⟨(hc2 e).1, fun j' hj2 => ?_⟩⟩, by show (kidsL (nd ns i)).length - (j + 1) < _; omega, ⟨rfl, by rw [w64_in ⟨by omega, by omega⟩]; rfl⟩, rfl⟩
            rcases Nat.lt_or_ge j' j with h | h
            · exact (hc2 e).2 j' h
            · obtain rfl : j' = j := by have : j' < j + 1 := hj2; omega
              exact add_clo hK (Classical.not_not.1 h7)
      · rw [hQ3]
        simp only [go_sem, Nat.reduceEqDiff, Nat.reduceLT, ↓reduceIte, Nat.reduceAdd, Nat.reduceMul, Nat.reduceLeDiff, Nat.reduceSub, Nat.reduceBEq, Int.reduceEq, Int.reduceLT, Int.reduceLE, Int.reduceToNat, Int.reduceAdd, Int.reduceSub, Int.reduceNeg, UInt8.reduceToNat]
        rw [hQ1]
        simp only [go_sem, Nat.reduceEqDiff, Nat.reduceLT, ↓reduceIte, Nat.reduceAdd, Nat.reduceMul, Nat.reduceLeDiff, Nat.reduceSub, Nat.reduceBEq, Int.reduceEq, Int.reduceLT, Int.reduceLE, Int.reduceToNat, Int.reduceAdd, Int.reduceSub, Int.reduceNeg, UInt8.reduceToNat]
        refine ⟨⟨(L2, b2, i + 1), by show i + 1 ≤ _; omega, hF2, hu2, hb2, fun e i' hi2 j' hj2 => ?_⟩, by show ns.length - (i + 1) < _; omega, ⟨rfl, by rw [w64_in ⟨by omega, by omega⟩]; rfl⟩, rfl⟩
        obtain ⟨g1, g2⟩ := hc2 e
        rcases Nat.lt_or_ge i' i with h | h
        · exact g1 i' h j' hj2
        · obtain rfl : i' = i := by have : i' < i + 1 := hi2; omega
          exact g2 j' (by omega)
    · rw [hQ1]
      simp only [go_sem, Nat.reduceEqDiff, Nat.reduceLT, ↓reduceIte, Nat.reduceAdd, Nat.reduceMul, Nat.reduceLeDiff, Nat.reduceSub, Nat.reduceBEq, Int.reduceEq, Int.reduceLT, Int.reduceLE, Int.reduceToNat, Int.reduceAdd, Int.reduceSub, Int.reduceNeg, UInt8.reduceToNat]
      rw [hQ]
      simp only [go_sem, Nat.reduceEqDiff, Nat.reduceLT, ↓reduceIte, Nat.reduceAdd, Nat.reduceMul, Nat.reduceLeDiff, Nat.reduceSub, Nat.reduceBEq, Int.reduceEq, Int.reduceLT, Int.reduceLE, Int.reduceToNat, Int.reduceAdd, Int.reduceSub, Int.reduceNeg, UInt8.reduceToNat]
      obtain rfl : i = ns.length := by omega
      refine ⟨⟨(L1, b1), hF1, hc1⟩, ?_, rfl, rfl⟩
      cases b1
      · simp only [Bool.false_eq_true, if_false]
        omega
      · have := hb1 rfl
        simp only [if_true]
        omega
  · rw [hQ]
    simp only [go_sem, Nat.reduceEqDiff, Nat.reduceLT, ↓reduceIte, Nat.reduceAdd, Nat.reduceMul, Nat.reduceLeDiff, Nat.reduceSub, Nat.reduceBEq, Int.reduceEq, Int.reduceLT, Int.reduceLE, Int.reduceToNat, Int.reduceAdd, Int.reduceSub, Int.reduceNeg, UInt8.reduceToNat]
    refine ⟨[([14], none, (sdL ns.length L).map i64)], ?_⟩
    simp only [go_sem, Nat.reduceEqDiff, Nat.reduceLT, ↓reduceIte, Nat.reduceAdd, Nat.reduceMul, Nat.reduceLeDiff, Nat.reduceSub, Nat.reduceBEq, Int.reduceEq, Int.reduceLT, Int.reduceLE, Int.reduceToNat, Int.reduceAdd, Int.reduceSub, Int.reduceNeg, UInt8.reduceToNat]
    rw [intsD, List.take_of_length_le (by simp [sdL_len]), hF.done hl (hc h1)]
end Go.Proofs.Ytmplpdjddjiioaa
