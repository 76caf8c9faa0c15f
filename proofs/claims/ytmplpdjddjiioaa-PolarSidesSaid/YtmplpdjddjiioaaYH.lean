/-
  The chapter's variables of a type.
-/
import Derived.Test.YtmplpdjddjiioaaYG
set_option linter.all false
namespace Go.Proofs.Ytmplpdjddjiioaa
open Go.Ab
def isV (ns : List TN) (v : Nat) (x : Int) : Bool := decide ((nd ns x.toNat).k = 11) && decide ((nd ns x.toNat).a = (v : Int))
def varN (ns : List TN) (b : List Int) (n : Nat) : List Nat := (List.range n).filter fun v => b.any (isV ns v)
theorem varN_succ (ns : List TN) (b : List Int) (n : Nat) : varN ns b (n + 1) = if b.any (isV ns n) then varN ns b n ++ [n] else varN ns b n := by
  unfold varN
  rw [List.range_succ, List.filter_append]
  by_cases h : b.any (isV ns n) = true
  · simp [h]
  · simp [h]
theorem varN_len (ns : List TN) (b : List Int) (n : Nat) : (varN ns b n).length ≤ n := by
  have := List.length_filter_le (fun v => b.any (isV ns v)) (List.range n)
  simpa [varN] using this
theorem any_takeI {p : Int → Bool} {b : List Int} {q : Nat} (h : q < b.length) : (b.take (q + 1)).any p = ((b.take q).any p || p (b.getD q 0)) := by
  rw [List.take_succ_eq_append_getElem h, List.any_append, getD_eq h]
  simp
set_option maxHeartbeats 1000000 in
theorem f30_ok {G} (ns : List TN) (root : Int) (hs : Sane ns) (hm : mayZ ns root = 0) : HP Try.prog G 30 [typeS ns root] (fun r => ∃ b, r = .d (intsD ((varN ns b 1000).map fun (v : Nat) => (v : Int))) ∧ Belw ns root b) := by
  obtain ⟨⟨h2, h3⟩, h4, h5, h6⟩ := may_ok hm
  have c25 := f25_ok (G := G) ns root root (by omega) (fun n hn => (hs.2 n hn).1) (rights_kids h5) h4
  refine funZ_ok Try.func30 rfl (by decide +kernel) (by simp [Try.ntmps30]) (veil fun E => ?_)
  unfold typeS at c25 ⊢
  simp only [go_sem, Nat.reduceEqDiff, Nat.reduceLT, ↓reduceIte, Nat.reduceAdd, Nat.reduceMul, Nat.reduceLeDiff, Nat.reduceSub, Nat.reduceBEq, Int.reduceEq, Int.reduceLT, Int.reduceLE, Int.reduceToNat, Int.reduceAdd, Int.reduceSub, Int.reduceNeg, UInt8.reduceToNat]
  refine e_call E (f8_ok ns root hs) rfl rfl (by simp) ?_
  rintro _ rfl
  simp only [go_sem, Nat.reduceEqDiff, Nat.reduceLT, ↓reduceIte, Nat.reduceAdd, Nat.reduceMul, Nat.reduceLeDiff, Nat.reduceSub, Nat.reduceBEq, Int.reduceEq, Int.reduceLT, Int.reduceLE, Int.reduceToNat, Int.reduceAdd, Int.reduceSub, Int.reduceNeg, UInt8.reduceToNat]
  rw [decide_eq_false (by simp [hm])]
  simp only [go_sem, Nat.reduceEqDiff, Nat.reduceLT, ↓reduceIte, Nat.reduceAdd, Nat.reduceMul, Nat.reduceLeDiff, Nat.reduceSub, Nat.reduceBEq, Int.reduceEq, Int.reduceLT, Int.reduceLE, Int.reduceToNat, Int.reduceAdd, Int.reduceSub, Int.reduceNeg, UInt8.reduceToNat]
  refine e_call E c25 rfl rfl (by simp) ?_
  rintro _ ⟨b, rfl, hb⟩
  simp only [go_sem, Nat.reduceEqDiff, Nat.reduceLT, ↓reduceIte, Nat.reduceAdd, Nat.reduceMul, Nat.reduceLeDiff, Nat.reduceSub, Nat.reduceBEq, Int.reduceEq, Int.reduceLT, Int.reduceLE, Int.reduceToNat, Int.reduceAdd, Int.reduceSub, Int.reduceNeg, UInt8.reduceToNat]
  refine c_frB E [1] (.agg [.sl (some 4) (ns.map nodeD), i64 root]) rfl rfl ?_
  unfold intsD
  simp only [go_sem, Nat.reduceEqDiff, Nat.reduceLT, ↓reduceIte, Nat.reduceAdd, Nat.reduceMul, Nat.reduceLeDiff, Nat.reduceSub, Nat.reduceBEq, Int.reduceEq, Int.reduceLT, Int.reduceLE, Int.reduceToNat, Int.reduceAdd, Int.reduceSub, Int.reduceNeg, UInt8.reduceToNat]
  have hbl := hb.2.2
  refine loopT_e E (X := { v : Nat // v ≤ 1000 }) (fun x => [(1, .d (.ptr (.agg [.sl (some 4) (ns.map nodeD), i64 root]))), (3, .vw [99] 0 (varN ns b x.1).length), (4, .d (.sl none (b.map i64))), (5, .d (i64 x.1))])
    (fun x => [([99], .arr none ((varN ns b x.1).map fun (v : Nat) => i64 v))]) [99] (fun x => 1000 - x.1) ⟨0, Nat.zero_le _⟩ (tau [([99], [8])]) ?_ ?_
  · simp only [go_sem, Nat.reduceEqDiff, Nat.reduceLT, ↓reduceIte, Nat.reduceAdd, Nat.reduceMul, Nat.reduceLeDiff, Nat.reduceSub, Nat.reduceBEq, Int.reduceEq, Int.reduceLT, Int.reduceLE, Int.reduceToNat, Int.reduceAdd, Int.reduceSub, Int.reduceNeg, UInt8.reduceToNat]
    exact ⟨rfl, rfl⟩
  rintro ⟨v, hv⟩ E0
  refine hideQ E0 fun Q' hQ E' => ?_
  simp only at hv ⊢
  simp only [go_sem, Nat.reduceEqDiff, Nat.reduceLT, ↓reduceIte, Nat.reduceAdd, Nat.reduceMul, Nat.reduceLeDiff, Nat.reduceSub, Nat.reduceBEq, Int.reduceEq, Int.reduceLT, Int.reduceLE, Int.reduceToNat, Int.reduceAdd, Int.reduceSub, Int.reduceNeg, UInt8.reduceToNat]
  have hvl := varN_len ns b v
  refine e_ifd E' (fun h1 => ?_) (fun h1 => ?_) <;> simp only [go_sem, Nat.reduceEqDiff, Nat.reduceLT, ↓reduceIte, Nat.reduceAdd, Nat.reduceMul, Nat.reduceLeDiff, Nat.reduceSub, Nat.reduceBEq, Int.reduceEq, Int.reduceLT, Int.reduceLE, Int.reduceToNat, Int.reduceAdd, Int.reduceSub, Int.reduceNeg, UInt8.reduceToNat]
  · refine loopO_e E' (X := { q : Nat // q ≤ b.length }) (fun y => [(1, .d (.ptr (.agg [.sl (some 4) (ns.map nodeD), i64 root]))), (3, .vw [99] 0 (varN ns b v).length), (4, .d (.sl none (b.map i64))), (5, .d (i64 v)), (6, .d (.bool ((b.take y.1).any (isV ns v)))), (7, .d (i64 y.1))])
      (fun y => [([99], .arr none ((varN ns b v).map fun (v : Nat) => i64 v))]) [99] (fun y => b.length - y.1) ⟨0, Nat.zero_le _⟩ ?_ ?_
    · simp only [go_sem, Nat.reduceEqDiff, Nat.reduceLT, ↓reduceIte, Nat.reduceAdd, Nat.reduceMul, Nat.reduceLeDiff, Nat.reduceSub, Nat.reduceBEq, Int.reduceEq, Int.reduceLT, Int.reduceLE, Int.reduceToNat, Int.reduceAdd, Int.reduceSub, Int.reduceNeg, UInt8.reduceToNat]
      all_goals rfl
    rintro ⟨q, hq⟩ E1
    refine hideQ E1 fun Q1 hQ1 E2 => ?_
    simp only at hq ⊢
    simp only [go_sem, Nat.reduceEqDiff, Nat.reduceLT, ↓reduceIte, Nat.reduceAdd, Nat.reduceMul, Nat.reduceLeDiff, Nat.reduceSub, Nat.reduceBEq, Int.reduceEq, Int.reduceLT, Int.reduceLE, Int.reduceToNat, Int.reduceAdd, Int.reduceSub, Int.reduceNeg, UInt8.reduceToNat]
    refine e_ifd E2 (fun h2 => ?_) (fun h2 => ?_) <;> simp only [go_sem, Nat.reduceEqDiff, Nat.reduceLT, ↓reduceIte, Nat.reduceAdd, Nat.reduceMul, Nat.reduceLeDiff, Nat.reduceSub, Nat.reduceBEq, Int.reduceEq, Int.reduceLT, Int.reduceLE, Int.reduceToNat, Int.reduceAdd, Int.reduceSub, Int.reduceNeg, UInt8.reduceToNat]
    · have hq' : q < b.length := by omega
      have hok := hb.2.1 _ (List.getElem_mem hq')
      obtain ⟨x, hx⟩ : ∃ x : Nat, b.getD q 0 = (x : Int) := ⟨(b.getD q 0).toNat, by rw [getD_eq hq']; have := hok.1; omega⟩
      have hi' : x < ns.length := by rw [getD_eq hq'] at hx; have := hok.2; omega
      have hiv : isV ns v (b.getD q 0) = (decide ((nd ns x).k = 11) && decide ((nd ns x).a = (v : Int))) := by rw [hx, isV, Int.toNat_natCast]
      refine region_qv mixed (by decide +kernel) E2 fun E3 => ?_
      simp only [go_sem, Nat.reduceEqDiff, Nat.reduceLT, ↓reduceIte, Nat.reduceAdd, Nat.reduceMul, Nat.reduceLeDiff, Nat.reduceSub, Nat.reduceBEq, Int.reduceEq, Int.reduceLT, Int.reduceLE, Int.reduceToNat, Int.reduceAdd, Int.reduceSub, Int.reduceNeg, UInt8.reduceToNat]
      refine q_gif E3 (fun h3 => ?_) (fun h3 => ?_) <;> simp only [go_sem, Nat.reduceEqDiff, Nat.reduceLT, ↓reduceIte, Nat.reduceAdd, Nat.reduceMul, Nat.reduceLeDiff, Nat.reduceSub, Nat.reduceBEq, Int.reduceEq, Int.reduceLT, Int.reduceLE, Int.reduceToNat, Int.reduceAdd, Int.reduceSub, Int.reduceNeg, UInt8.reduceToNat]
      · rw [hQ1]
        simp only [go_sem, Nat.reduceEqDiff, Nat.reduceLT, ↓reduceIte, Nat.reduceAdd, Nat.reduceMul, Nat.reduceLeDiff, Nat.reduceSub, Nat.reduceBEq, Int.reduceEq, Int.reduceLT, Int.reduceLE, Int.reduceToNat, Int.reduceAdd, Int.reduceSub, Int.reduceNeg, UInt8.reduceToNat]
        refine ⟨⟨q + 1, by omega⟩, by show b.length - (q + 1) < _; omega, ?_, by rw [w64_in ⟨by omega, by omega⟩]; rfl⟩
        rw [any_takeI hq', h3, Bool.true_or]
      · refine ⟨⟨by omega, by omega⟩, ?_⟩
        rw [ints_getD hq', hx]
        simp only [go_sem, Nat.reduceEqDiff, Nat.reduceLT, ↓reduceIte, Nat.reduceAdd, Nat.reduceMul, Nat.reduceLeDiff, Nat.reduceSub, Nat.reduceBEq, Int.reduceEq, Int.reduceLT, Int.reduceLE, Int.reduceToNat, Int.reduceAdd, Int.reduceSub, Int.reduceNeg, UInt8.reduceToNat]
        refine ⟨⟨by omega, by omega⟩, ?_⟩
        rw [nodes_nd hi']
        simp only [go_sem, Nat.reduceEqDiff, Nat.reduceLT, ↓reduceIte, Nat.reduceAdd, Nat.reduceMul, Nat.reduceLeDiff, Nat.reduceSub, Nat.reduceBEq, Int.reduceEq, Int.reduceLT, Int.reduceLE, Int.reduceToNat, Int.reduceAdd, Int.reduceSub, Int.reduceNeg, UInt8.reduceToNat]
        refine q_gifd E3 (fun h4 => ?_) (fun h4 => ?_) <;> simp only [go_sem, Nat.reduceEqDiff, Nat.reduceLT, ↓reduceIte, Nat.reduceAdd, Nat.reduceMul, Nat.reduceLeDiff, Nat.reduceSub, Nat.reduceBEq, Int.reduceEq, Int.reduceLT, Int.reduceLE, Int.reduceToNat, Int.reduceAdd, Int.reduceSub, Int.reduceNeg, UInt8.reduceToNat]
        · refine ⟨⟨by omega, by omega⟩, ?_⟩
          rw [ints_getD hq', hx]
          simp only [go_sem, Nat.reduceEqDiff, Nat.reduceLT, ↓reduceIte, Nat.reduceAdd, Nat.reduceMul, Nat.reduceLeDiff, Nat.reduceSub, Nat.reduceBEq, Int.reduceEq, Int.reduceLT, Int.reduceLE, Int.reduceToNat, Int.reduceAdd, Int.reduceSub, Int.reduceNeg, UInt8.reduceToNat]
          refine ⟨⟨by omega, by omega⟩, ?_⟩
          rw [nodes_nd hi']
          simp only [go_sem, Nat.reduceEqDiff, Nat.reduceLT, ↓reduceIte, Nat.reduceAdd, Nat.reduceMul, Nat.reduceLeDiff, Nat.reduceSub, Nat.reduceBEq, Int.reduceEq, Int.reduceLT, Int.reduceLE, Int.reduceToNat, Int.reduceAdd, Int.reduceSub, Int.reduceNeg, UInt8.reduceToNat]
          rw [hQ1]
          simp only [go_sem, Nat.reduceEqDiff, Nat.reduceLT, ↓reduceIte, Nat.reduceAdd, Nat.reduceMul, Nat.reduceLeDiff, Nat.reduceSub, Nat.reduceBEq, Int.reduceEq, Int.reduceLT, Int.reduceLE, Int.reduceToNat, Int.reduceAdd, Int.reduceSub, Int.reduceNeg, UInt8.reduceToNat]
          refine ⟨⟨q + 1, by omega⟩, by show b.length - (q + 1) < _; omega, ?_, by rw [w64_in ⟨by omega, by omega⟩]; rfl⟩
          rw [any_takeI hq', h3, hiv, decide_eq_true h4, Bool.false_or, Bool.true_and]
        · rw [hQ1]
          simp only [go_sem, Nat.reduceEqDiff, Nat.reduceLT, ↓reduceIte, Nat.reduceAdd, Nat.reduceMul, Nat.reduceLeDiff, Nat.reduceSub, Nat.reduceBEq, Int.reduceEq, Int.reduceLT, Int.reduceLE, Int.reduceToNat, Int.reduceAdd, Int.reduceSub, Int.reduceNeg, UInt8.reduceToNat]
          refine ⟨⟨q + 1, by omega⟩, by show b.length - (q + 1) < _; omega, ?_, by rw [w64_in ⟨by omega, by omega⟩]; rfl⟩
          rw [any_takeI hq', h3, hiv, decide_eq_false h4]
          rfl
    · obtain rfl : q = b.length := by omega
      rw [hQ1]
      simp only [go_sem, Nat.reduceEqDiff, Nat.reduceLT, ↓reduceIte, Nat.reduceAdd, Nat.reduceMul, Nat.reduceLeDiff, Nat.reduceSub, Nat.reduceBEq, Int.reduceEq, Int.reduceLT, Int.reduceLE, Int.reduceToNat, Int.reduceAdd, Int.reduceSub, Int.reduceNeg, UInt8.reduceToNat]
      refine e_if E' (fun h3 => ?_) (fun h3 => ?_) <;> simp only [go_sem, Nat.reduceEqDiff, Nat.reduceLT, ↓reduceIte, Nat.reduceAdd, Nat.reduceMul, Nat.reduceLeDiff, Nat.reduceSub, Nat.reduceBEq, Int.reduceEq, Int.reduceLT, Int.reduceLE, Int.reduceToNat, Int.reduceAdd, Int.reduceSub, Int.reduceNeg, UInt8.reduceToNat]
      · refine ⟨by omega, ?_⟩
        rw [hQ]
        simp only [go_sem, Nat.reduceEqDiff, Nat.reduceLT, ↓reduceIte, Nat.reduceAdd, Nat.reduceMul, Nat.reduceLeDiff, Nat.reduceSub, Nat.reduceBEq, Int.reduceEq, Int.reduceLT, Int.reduceLE, Int.reduceToNat, Int.reduceAdd, Int.reduceSub, Int.reduceNeg, UInt8.reduceToNat]
        have e := varN_succ ns b v
        rw [h3, if_pos rfl] at e
        refine ⟨⟨v + 1, by omega⟩, by show 1000 - (v + 1) < _; omega, tau [([99], [57])], ?_⟩
        rw [w64_in ⟨by omega, by omega⟩]
        simp only [go_sem, Nat.reduceEqDiff, Nat.reduceLT, ↓reduceIte, Nat.reduceAdd, Nat.reduceMul, Nat.reduceLeDiff, Nat.reduceSub, Nat.reduceBEq, Int.reduceEq, Int.reduceLT, Int.reduceLE, Int.reduceToNat, Int.reduceAdd, Int.reduceSub, Int.reduceNeg, UInt8.reduceToNat]
        rw [e]
        simp
      · rw [hQ]
        simp only [go_sem, Nat.reduceEqDiff, Nat.reduceLT, ↓reduceIte, Nat.reduceAdd, Nat.reduceMul, Nat.reduceLeDiff, Nat.reduceSub, Nat.reduceBEq, Int.reduceEq, Int.reduceLT, Int.reduceLE, Int.reduceToNat, Int.reduceAdd, Int.reduceSub, Int.reduceNeg, UInt8.reduceToNat]
        refine ⟨⟨v + 1, by omega⟩, by show 1000 - (v + 1) < _; omega, id, ?_⟩
        simp only [go_sem, Nat.reduceEqDiff, Nat.reduceLT, ↓reduceIte, Nat.reduceAdd, Nat.reduceMul, Nat.reduceLeDiff, Nat.reduceSub, Nat.reduceBEq, Int.reduceEq, Int.reduceLT, Int.reduceLE, Int.reduceToNat, Int.reduceAdd, Int.reduceSub, Int.reduceNeg, UInt8.reduceToNat]
        have e := varN_succ ns b v
        rw [h3, if_neg (by decide)] at e
        rw [w64_in ⟨by omega, by omega⟩, e]
        exact ⟨⟨rfl, rfl⟩, rfl⟩
  · obtain rfl : v = 1000 := by omega
    rw [hQ]
    simp only [go_sem, Nat.reduceEqDiff, Nat.reduceLT, ↓reduceIte, Nat.reduceAdd, Nat.reduceMul, Nat.reduceLeDiff, Nat.reduceSub, Nat.reduceBEq, Int.reduceEq, Int.reduceLT, Int.reduceLE, Int.reduceToNat, Int.reduceAdd, Int.reduceSub, Int.reduceNeg, UInt8.reduceToNat]
    refine ⟨[([99], none, (varN ns b 1000).map fun (v : Nat) => i64 v)], ?_⟩
    simp only [go_sem, Nat.reduceEqDiff, Nat.reduceLT, ↓reduceIte, Nat.reduceAdd, Nat.reduceMul, Nat.reduceLeDiff, Nat.reduceSub, Nat.reduceBEq, Int.reduceEq, Int.reduceLT, Int.reduceLE, Int.reduceToNat, Int.reduceAdd, Int.reduceSub, Int.reduceNeg, UInt8.reduceToNat]
    refine ⟨b, ?_, hb⟩
    rw [intsD, List.map_map]
    rfl
end Go.Proofs.Ytmplpdjddjiioaa
