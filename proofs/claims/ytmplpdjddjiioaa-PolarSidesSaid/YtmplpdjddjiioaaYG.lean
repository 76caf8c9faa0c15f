/-
  The chapter's check of the lattice's sides.
-/
import Derived.Test.YtmplpdjddjiioaaYF
set_option linter.all false
namespace Go.Proofs.Ytmplpdjddjiioaa
open Go.Ab
theorem sd_two (l : List Spot) (i : Nat) : 2 ≤ sd l i ↔ ((i : Int), (2 : Int)) ∈ l := by
  unfold sd
  by_cases h1 : ((i : Int), (1 : Int)) ∈ l <;> by_cases h2 : ((i : Int), (2 : Int)) ∈ l <;> simp [h1, h2]
theorem sd_odd (l : List Spot) (i : Nat) : (sd l i).tmod 2 = 1 ↔ ((i : Int), (1 : Int)) ∈ l := by
  unfold sd
  by_cases h1 : ((i : Int), (1 : Int)) ∈ l <;> by_cases h2 : ((i : Int), (2 : Int)) ∈ l <;> simp [h1, h2]
theorem f16_bad {G} (ns : List TN) (root : Int) (hs : Sane ns) (hm : mayZ ns root ≠ 0) : HP Try.prog G 16 [typeS ns root] (fun r => r = .d (i64 (mayZ ns root))) := by
  refine funP_ok Try.func16 rfl (by decide +kernel) (by simp [Try.ntmps16]) (veil fun E => ?_)
  unfold typeS
  simp only [go_sem, Nat.reduceEqDiff, Nat.reduceLT, ↓reduceIte, Nat.reduceAdd, Nat.reduceMul, Nat.reduceLeDiff, Nat.reduceSub, Nat.reduceBEq, Int.reduceEq, Int.reduceLT, Int.reduceLE, Int.reduceToNat, Int.reduceAdd, Int.reduceSub, Int.reduceNeg, UInt8.reduceToNat]
  refine e_call E (f8_ok ns root hs) rfl rfl (by simp) ?_
  rintro _ rfl
  simp only [go_sem, Nat.reduceEqDiff, Nat.reduceLT, ↓reduceIte, Nat.reduceAdd, Nat.reduceMul, Nat.reduceLeDiff, Nat.reduceSub, Nat.reduceBEq, Int.reduceEq, Int.reduceLT, Int.reduceLE, Int.reduceToNat, Int.reduceAdd, Int.reduceSub, Int.reduceNeg, UInt8.reduceToNat]
  rw [decide_eq_true hm]
  simp only [go_sem, Nat.reduceEqDiff, Nat.reduceLT, ↓reduceIte, Nat.reduceAdd, Nat.reduceMul, Nat.reduceLeDiff, Nat.reduceSub, Nat.reduceBEq, Int.reduceEq, Int.reduceLT, Int.reduceLE, Int.reduceToNat, Int.reduceAdd, Int.reduceSub, Int.reduceNeg, UInt8.reduceToNat]
set_option maxHeartbeats 1000000 in
theorem f16_ok {G} (ns : List TN) (root : Int) (hs : Sane ns) (hm : mayZ ns root = 0) {l : List Spot} (hl : Spots ns root l) : HP Try.prog G 16 [typeS ns root] (fun r => r = .d (i64 (if polarB ns l then 0 else 12))) := by
  obtain ⟨⟨h2, h3⟩, h4, h5, h6⟩ := may_ok hm
  have c19 := f19_ok (G := G) ns root h3 (fun n hn => (hs.2 n hn).1) (rights_kids h5) h4 hl
  refine funP_ok Try.func16 rfl (by decide +kernel) (by simp [Try.ntmps16]) (veil fun E => ?_)
  unfold typeS at c19 ⊢
  simp only [go_sem, Nat.reduceEqDiff, Nat.reduceLT, ↓reduceIte, Nat.reduceAdd, Nat.reduceMul, Nat.reduceLeDiff, Nat.reduceSub, Nat.reduceBEq, Int.reduceEq, Int.reduceLT, Int.reduceLE, Int.reduceToNat, Int.reduceAdd, Int.reduceSub, Int.reduceNeg, UInt8.reduceToNat]
  refine e_call E (f8_ok ns root hs) rfl rfl (by simp) ?_
  rintro _ rfl
  simp only [go_sem, Nat.reduceEqDiff, Nat.reduceLT, ↓reduceIte, Nat.reduceAdd, Nat.reduceMul, Nat.reduceLeDiff, Nat.reduceSub, Nat.reduceBEq, Int.reduceEq, Int.reduceLT, Int.reduceLE, Int.reduceToNat, Int.reduceAdd, Int.reduceSub, Int.reduceNeg, UInt8.reduceToNat]
  rw [decide_eq_false (by simp [hm])]
  simp only [go_sem, Nat.reduceEqDiff, Nat.reduceLT, ↓reduceIte, Nat.reduceAdd, Nat.reduceMul, Nat.reduceLeDiff, Nat.reduceSub, Nat.reduceBEq, Int.reduceEq, Int.reduceLT, Int.reduceLE, Int.reduceToNat, Int.reduceAdd, Int.reduceSub, Int.reduceNeg, UInt8.reduceToNat]
  refine e_call E (c19) rfl rfl (by simp) ?_
  rintro _ rfl
  simp only [go_sem, Nat.reduceEqDiff, Nat.reduceLT, ↓reduceIte, Nat.reduceAdd, Nat.reduceMul, Nat.reduceLeDiff, Nat.reduceSub, Nat.reduceBEq, Int.reduceEq, Int.reduceLT, Int.reduceLE, Int.reduceToNat, Int.reduceAdd, Int.reduceSub, Int.reduceNeg, UInt8.reduceToNat]
  refine c_frB E [1] (.agg [.sl (some 4) (ns.map nodeD), i64 root]) rfl rfl ?_
  unfold intsD
  simp only [go_sem, Nat.reduceEqDiff, Nat.reduceLT, ↓reduceIte, Nat.reduceAdd, Nat.reduceMul, Nat.reduceLeDiff, Nat.reduceSub, Nat.reduceBEq, Int.reduceEq, Int.reduceLT, Int.reduceLE, Int.reduceToNat, Int.reduceAdd, Int.reduceSub, Int.reduceNeg, UInt8.reduceToNat]
  refine loopP_e E (X := { k : Nat // k ≤ ns.length ∧ (List.range k).any (badP ns l) = false }) (fun x => [(1, .d (.ptr (.agg [.sl (some 4) (ns.map nodeD), i64 root]))), (4, .d (.sl none ((sdL ns.length l).map i64))), (5, .d (i64 x.1))]) (fun x => ns.length - x.1) rfl ⟨0, Nat.zero_le _, rfl⟩ ?_ ?_
  · simp only [go_sem, Nat.reduceEqDiff, Nat.reduceLT, ↓reduceIte, Nat.reduceAdd, Nat.reduceMul, Nat.reduceLeDiff, Nat.reduceSub, Nat.reduceBEq, Int.reduceEq, Int.reduceLT, Int.reduceLE, Int.reduceToNat, Int.reduceAdd, Int.reduceSub, Int.reduceNeg, UInt8.reduceToNat]
    all_goals rfl
  rintro ⟨k, hkl, hb⟩ E'
  simp only [go_sem, Nat.reduceEqDiff, Nat.reduceLT, ↓reduceIte, Nat.reduceAdd, Nat.reduceMul, Nat.reduceLeDiff, Nat.reduceSub, Nat.reduceBEq, Int.reduceEq, Int.reduceLT, Int.reduceLE, Int.reduceToNat, Int.reduceAdd, Int.reduceSub, Int.reduceNeg, UInt8.reduceToNat]
  refine e_ifd E' (fun h7 => ?_) (fun h7 => ?_) <;> simp only [go_sem, Nat.reduceEqDiff, Nat.reduceLT, ↓reduceIte, Nat.reduceAdd, Nat.reduceMul, Nat.reduceLeDiff, Nat.reduceSub, Nat.reduceBEq, Int.reduceEq, Int.reduceLT, Int.reduceLE, Int.reduceToNat, Int.reduceAdd, Int.reduceSub, Int.reduceNeg, UInt8.reduceToNat]
  · have hi' : k < ns.length := by omega
    have hsl : (sdL ns.length l).length = ns.length := sdL_len _ _
    have bad : badP ns l k = true → polarB ns l = false := fun h => by rw [polarB, range_any_t hi' h]; rfl
    refine ⟨⟨by omega, by omega⟩, ?_⟩
    rw [nodes_nd hi']
    simp only [go_sem, Nat.reduceEqDiff, Nat.reduceLT, ↓reduceIte, Nat.reduceAdd, Nat.reduceMul, Nat.reduceLeDiff, Nat.reduceSub, Nat.reduceBEq, Int.reduceEq, Int.reduceLT, Int.reduceLE, Int.reduceToNat, Int.reduceAdd, Int.reduceSub, Int.reduceNeg, UInt8.reduceToNat]
    refine e_gifd E' (fun h9 => ?_) (fun h9 => ?_) <;> simp only [go_sem, Nat.reduceEqDiff, Nat.reduceLT, ↓reduceIte, Nat.reduceAdd, Nat.reduceMul, Nat.reduceLeDiff, Nat.reduceSub, Nat.reduceBEq, Int.reduceEq, Int.reduceLT, Int.reduceLE, Int.reduceToNat, Int.reduceAdd, Int.reduceSub, Int.reduceNeg, UInt8.reduceToNat]
    · refine ⟨⟨by omega, by omega⟩, ?_⟩
      rw [sdL_get' hi']
      simp only [go_sem, Nat.reduceEqDiff, Nat.reduceLT, ↓reduceIte, Nat.reduceAdd, Nat.reduceMul, Nat.reduceLeDiff, Nat.reduceSub, Nat.reduceBEq, Int.reduceEq, Int.reduceLT, Int.reduceLE, Int.reduceToNat, Int.reduceAdd, Int.reduceSub, Int.reduceNeg, UInt8.reduceToNat]
      refine e_gifd E' (fun h8 => ?_) (fun h8 => ?_) <;> simp only [go_sem, Nat.reduceEqDiff, Nat.reduceLT, ↓reduceIte, Nat.reduceAdd, Nat.reduceMul, Nat.reduceLeDiff, Nat.reduceSub, Nat.reduceBEq, Int.reduceEq, Int.reduceLT, Int.reduceLE, Int.reduceToNat, Int.reduceAdd, Int.reduceSub, Int.reduceNeg, UInt8.reduceToNat]
      · rw [bad (by simp [badP, h9, (sd_two l k).1 h8])]
        rfl
      · refine ⟨⟨by omega, by omega⟩, ?_⟩
        rw [nodes_nd hi']
        simp only [go_sem, Nat.reduceEqDiff, Nat.reduceLT, ↓reduceIte, Nat.reduceAdd, Nat.reduceMul, Nat.reduceLeDiff, Nat.reduceSub, Nat.reduceBEq, Int.reduceEq, Int.reduceLT, Int.reduceLE, Int.reduceToNat, Int.reduceAdd, Int.reduceSub, Int.reduceNeg, UInt8.reduceToNat]
        refine e_gifd E' (fun h10 => ?_) (fun h10 => ?_)
        · omega
        simp only [go_sem, Nat.reduceEqDiff, Nat.reduceLT, ↓reduceIte, Nat.reduceAdd, Nat.reduceMul, Nat.reduceLeDiff, Nat.reduceSub, Nat.reduceBEq, Int.reduceEq, Int.reduceLT, Int.reduceLE, Int.reduceToNat, Int.reduceAdd, Int.reduceSub, Int.reduceNeg, UInt8.reduceToNat]
        refine ⟨⟨k + 1, by omega, range_any hb (by simp [badP, h9, mt (sd_two l k).2 h8])⟩, by show ns.length - (k + 1) < _; omega, ?_⟩
        rw [w64_in ⟨by omega, by omega⟩]; rfl
    · refine ⟨⟨by omega, by omega⟩, ?_⟩
      rw [nodes_nd hi']
      simp only [go_sem, Nat.reduceEqDiff, Nat.reduceLT, ↓reduceIte, Nat.reduceAdd, Nat.reduceMul, Nat.reduceLeDiff, Nat.reduceSub, Nat.reduceBEq, Int.reduceEq, Int.reduceLT, Int.reduceLE, Int.reduceToNat, Int.reduceAdd, Int.reduceSub, Int.reduceNeg, UInt8.reduceToNat]
      refine e_gifd E' (fun h10 => ?_) (fun h10 => ?_) <;> simp only [go_sem, Nat.reduceEqDiff, Nat.reduceLT, ↓reduceIte, Nat.reduceAdd, Nat.reduceMul, Nat.reduceLeDiff, Nat.reduceSub, Nat.reduceBEq, Int.reduceEq, Int.reduceLT, Int.reduceLE, Int.reduceToNat, Int.reduceAdd, Int.reduceSub, Int.reduceNeg, UInt8.reduceToNat]
      · refine ⟨⟨by omega, by omega⟩, ?_⟩
        rw [sdL_get' hi']
        simp only [go_sem, Nat.reduceEqDiff, Nat.reduceLT, ↓reduceIte, Nat.reduceAdd, Nat.reduceMul, Nat.reduceLeDiff, Nat.reduceSub, Nat.reduceBEq, Int.reduceEq, Int.reduceLT, Int.reduceLE, Int.reduceToNat, Int.reduceAdd, Int.reduceSub, Int.reduceNeg, UInt8.reduceToNat]
        refine e_ifd E' (fun h8 => ?_) (fun h8 => ?_) <;> simp only [go_sem, Nat.reduceEqDiff, Nat.reduceLT, ↓reduceIte, Nat.reduceAdd, Nat.reduceMul, Nat.reduceLeDiff, Nat.reduceSub, Nat.reduceBEq, Int.reduceEq, Int.reduceLT, Int.reduceLE, Int.reduceToNat, Int.reduceAdd, Int.reduceSub, Int.reduceNeg, UInt8.reduceToNat]
        · rw [bad (by simp [badP, h10, (sd_odd l k).1 h8])]
          rfl
        · refine ⟨⟨k + 1, by omega, range_any hb (by simp [badP, h10, mt (sd_odd l k).2 h8])⟩, by show ns.length - (k + 1) < _; omega, ?_⟩
          rw [w64_in ⟨by omega, by omega⟩]; rfl
      · refine ⟨⟨k + 1, by omega, range_any hb (by simp [badP, h9, h10])⟩, by show ns.length - (k + 1) < _; omega, ?_⟩
        rw [w64_in ⟨by omega, by omega⟩]; rfl
  · have : k = ns.length := by omega
    subst this
    rw [polarB, hb]
    rfl
end Go.Proofs.Ytmplpdjddjiioaa
