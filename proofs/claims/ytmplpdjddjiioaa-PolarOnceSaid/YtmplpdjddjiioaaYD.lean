/-
  The law PolarOnce's own part.
-/
import Derived.Test.YtmplpdjddjiioaaYC
set_option linter.all false
namespace Go.Proofs.Ytmplpdjddjiioaa
open Go.Ab
theorem hp_mono {P : Program} {G : List (Nat × Obj)} {f : FuncId} {ds : List D} {Q Q' : AV → Prop} (h : HP P G f ds Q) (hq : ∀ r, Q r → Q' r) : HP P G f ds Q' := HCall.mono h fun r _ hr => ⟨hq r hr.1, hr.2⟩
section
variable {ns : List TN} {root : Int} {l : List Spot} {G : List (Nat × Obj)}
theorem f13_split (hs : Sane ns) (hm : mayZ ns root = 0) (h : Spots ns root l) (hN : l.length ≤ 2000) : HP Try.prog G 13 [typeS (l.map (splitN ns l)) 0] (fun r => r = .tup [.d (intsD (l.map (·.2))), .d (i64 0)]) :=
  hp_mono (f13_ok _ 0 (sane_split hs hN h)) fun r hr => by
    obtain ⟨m, rfl, hm'⟩ := (hr.resolve_left fun g => g.1 (may_split hm h hN)).2
    rw [hm'.1.fn (spots_split (may_ok hm).2.2.1 h).1, sdL_split h]
theorem f7_split (hs : Sane ns) (hm : mayZ ns root = 0) (h : Spots ns root l) (hN : l.length ≤ 2000) : HP Try.prog G 7 [typeS (l.map (splitN ns l)) 0] (fun r => r = .tup [.d (typeS (l.map (splitN ns l)) 0), .d (intsD (l.map (·.2))), .d (i64 0)]) :=
  hp_mono (f7_ok _ 0 (sane_split hs hN h)) fun r hr => by
    obtain ⟨m, rfl, hm'⟩ := (hr.resolve_left fun g => g.1 (may_split hm h hN)).2
    rw [hm'.1.fn (spots_split (may_ok hm).2.2.1 h).1, sides_shf, again_split (may_ok hm).2.2.1 h]
theorem f15_split (hs : Sane ns) (hm : mayZ ns root = 0) (h : Spots ns root l) (hN : l.length ≤ 2000) : HP Try.prog G 15 [typeS (l.map (splitN ns l)) 0] (fun r => r = .d (i64 (if polarB ns l then 0 else 12))) :=
  hp_mono (f15_ok _ 0 (sane_split hs hN h)) fun r hr => by
    obtain ⟨m, rfl, hm'⟩ := (hr.resolve_left fun g => g.1 (may_split hm h hN)).2
    rw [hm'.1.fn (spots_split (may_ok hm).2.2.1 h).1, polar_split h]
theorem f15_fn (hs : Sane ns) (hm : mayZ ns root = 0) (h : Spots ns root l) : HP Try.prog G 15 [typeS ns root] (fun r => r = .d (i64 (if polarB ns l then 0 else 12))) :=
  hp_mono (f15_ok ns root hs) fun r hr => by
    obtain ⟨m, rfl, hm'⟩ := (hr.resolve_left fun g => g.1 hm).2
    rw [hm'.1.fn h.1]
end
theorem few_forty (ns : List TN) : (fewL ns 40).length ≤ 40 ∨ 2000 < (fewL ns 40).length := by
  simp only [fewL, List.length_map, List.length_take, fewN]
  split <;> omega
set_option maxHeartbeats 1000000 in
theorem polarOnce_hp {G} {ds : List D} (h : oks tsT ds) : HP Try.prog G 5 [.agg ds] (fun r => r = .d (.bool true)) := by
  obtain ⟨L, root, ns, rfl, hin⟩ := type_in h
  have hs := few_sane hin 40 (by decide)
  have hf := few_forty ns
  refine funP_ok Try.func5 rfl (by decide +kernel) (by simp [Try.ntmps5]) (veil fun E => ?_)
  simp only [go_sem, Nat.reduceEqDiff, Nat.reduceLT, ↓reduceIte, Nat.reduceAdd, Nat.reduceMul, Nat.reduceLeDiff, Nat.reduceSub, Nat.reduceBEq, Int.reduceEq, Int.reduceLT, Int.reduceLE, Int.reduceToNat, Int.reduceAdd, Int.reduceSub, Int.reduceNeg, UInt8.reduceToNat]
  refine e_call E (f9_ok) rfl rfl (by simp) ?_
  rintro _ rfl
  simp only [go_sem, Nat.reduceEqDiff, Nat.reduceLT, ↓reduceIte, Nat.reduceAdd, Nat.reduceMul, Nat.reduceLeDiff, Nat.reduceSub, Nat.reduceBEq, Int.reduceEq, Int.reduceLT, Int.reduceLE, Int.reduceToNat, Int.reduceAdd, Int.reduceSub, Int.reduceNeg, UInt8.reduceToNat]
  refine e_call E (f6_ok root 40 hin (by decide)) rfl rfl (by simp) ?_
  rintro _ rfl
  simp only [go_sem, Nat.reduceEqDiff, Nat.reduceLT, ↓reduceIte, Nat.reduceAdd, Nat.reduceMul, Nat.reduceLeDiff, Nat.reduceSub, Nat.reduceBEq, Int.reduceEq, Int.reduceLT, Int.reduceLE, Int.reduceToNat, Int.reduceAdd, Int.reduceSub, Int.reduceNeg, UInt8.reduceToNat]
  obtain ⟨T, hT⟩ : ∃ T, T = fewL ns 40 := ⟨_, rfl⟩
  rw [← hT] at hs hf ⊢
  clear hT hin h
  have hwt : WkL [typeD T root] [typeS T root] := ⟨wk_typeD T root, trivial⟩
  unfold typeD
  simp only [go_sem, Nat.reduceEqDiff, Nat.reduceLT, ↓reduceIte, Nat.reduceAdd, Nat.reduceMul, Nat.reduceLeDiff, Nat.reduceSub, Nat.reduceBEq, Int.reduceEq, Int.reduceLT, Int.reduceLE, Int.reduceToNat, Int.reduceAdd, Int.reduceSub, Int.reduceNeg, UInt8.reduceToNat]
  refine e_call E ((f7_ok T root hs).wk hwt) rfl rfl (by simp) ?_
  rintro r hr
  rcases hr with ⟨hm, rfl⟩ | ⟨hm, l, rfl, hl⟩
  · simp only [go_sem, Nat.reduceEqDiff, Nat.reduceLT, ↓reduceIte, Nat.reduceAdd, Nat.reduceMul, Nat.reduceLeDiff, Nat.reduceSub, Nat.reduceBEq, Int.reduceEq, Int.reduceLT, Int.reduceLE, Int.reduceToNat, Int.reduceAdd, Int.reduceSub, Int.reduceNeg, UInt8.reduceToNat]
    rw [decide_eq_true (by exact hm)]
    simp only [go_sem, Nat.reduceEqDiff, Nat.reduceLT, ↓reduceIte, Nat.reduceAdd, Nat.reduceMul, Nat.reduceLeDiff, Nat.reduceSub, Nat.reduceBEq, Int.reduceEq, Int.reduceLT, Int.reduceLE, Int.reduceToNat, Int.reduceAdd, Int.reduceSub, Int.reduceNeg, UInt8.reduceToNat]
  · have hN : l.length ≤ 2000 := by
      have h1 := hl.2.2
      have h2 := (may_ok hm).1.2
      omega
    have c13 := f13_split (G := G) hs hm hl hN
    have c7 := f7_split (G := G) hs hm hl hN
    have c15 := f15_split (G := G) hs hm hl hN
    have cT := (f15_fn (G := G) hs hm hl).wk hwt
    have cS := f11_ok (G := G) (l.map (splitN T l)) 0 (by simp; omega) (fun n hn => by obtain ⟨q, hq, rfl⟩ := List.mem_map.1 hn; exact split_fld hs hl hq)
    have cI := f12_ok (G := G) (l.map (·.2)) (l.map (·.2)) (by simp; omega)
    generalize (if polarB T l then (0 : Int) else 12) = b at c15 cT
    generalize l.map (splitN T l) = S at c13 c7 c15 cS ⊢
    generalize l.map (·.2) = I at c13 c7 cI ⊢
    unfold typeS intsD typeD at *
    simp only [go_sem, Nat.reduceEqDiff, Nat.reduceLT, ↓reduceIte, Nat.reduceAdd, Nat.reduceMul, Nat.reduceLeDiff, Nat.reduceSub, Nat.reduceBEq, Int.reduceEq, Int.reduceLT, Int.reduceLE, Int.reduceToNat, Int.reduceAdd, Int.reduceSub, Int.reduceNeg, UInt8.reduceToNat]
    refine e_call E (c13) rfl rfl (by simp) ?_
    rintro _ rfl
    simp only [go_sem, Nat.reduceEqDiff, Nat.reduceLT, ↓reduceIte, Nat.reduceAdd, Nat.reduceMul, Nat.reduceLeDiff, Nat.reduceSub, Nat.reduceBEq, Int.reduceEq, Int.reduceLT, Int.reduceLE, Int.reduceToNat, Int.reduceAdd, Int.reduceSub, Int.reduceNeg, UInt8.reduceToNat]
    refine e_call E (c7) rfl rfl (by simp) ?_
    rintro _ rfl
    simp only [go_sem, Nat.reduceEqDiff, Nat.reduceLT, ↓reduceIte, Nat.reduceAdd, Nat.reduceMul, Nat.reduceLeDiff, Nat.reduceSub, Nat.reduceBEq, Int.reduceEq, Int.reduceLT, Int.reduceLE, Int.reduceToNat, Int.reduceAdd, Int.reduceSub, Int.reduceNeg, UInt8.reduceToNat]
    refine region_xv mixed E fun X => ?_
    simp only [go_sem, Nat.reduceEqDiff, Nat.reduceLT, ↓reduceIte, Nat.reduceAdd, Nat.reduceMul, Nat.reduceLeDiff, Nat.reduceSub, Nat.reduceBEq, Int.reduceEq, Int.reduceLT, Int.reduceLE, Int.reduceToNat, Int.reduceAdd, Int.reduceSub, Int.reduceNeg, UInt8.reduceToNat]
    refine x_call X cI rfl rfl (by simp) ?_
    simp only [go_sem, Nat.reduceEqDiff, Nat.reduceLT, ↓reduceIte, Nat.reduceAdd, Nat.reduceMul, Nat.reduceLeDiff, Nat.reduceSub, Nat.reduceBEq, Int.reduceEq, Int.reduceLT, Int.reduceLE, Int.reduceToNat, Int.reduceAdd, Int.reduceSub, Int.reduceNeg, UInt8.reduceToNat]
    refine x_call X cI rfl rfl (by simp) ?_
    simp only [go_sem, Nat.reduceEqDiff, Nat.reduceLT, ↓reduceIte, Nat.reduceAdd, Nat.reduceMul, Nat.reduceLeDiff, Nat.reduceSub, Nat.reduceBEq, Int.reduceEq, Int.reduceLT, Int.reduceLE, Int.reduceToNat, Int.reduceAdd, Int.reduceSub, Int.reduceNeg, UInt8.reduceToNat]
    refine x_call X cS rfl rfl (by simp) ?_
    simp only [go_sem, Nat.reduceEqDiff, Nat.reduceLT, ↓reduceIte, Nat.reduceAdd, Nat.reduceMul, Nat.reduceLeDiff, Nat.reduceSub, Nat.reduceBEq, Int.reduceEq, Int.reduceLT, Int.reduceLE, Int.reduceToNat, Int.reduceAdd, Int.reduceSub, Int.reduceNeg, UInt8.reduceToNat]
    refine x_call X c15 rfl rfl (by simp) ?_
    simp only [go_sem, Nat.reduceEqDiff, Nat.reduceLT, ↓reduceIte, Nat.reduceAdd, Nat.reduceMul, Nat.reduceLeDiff, Nat.reduceSub, Nat.reduceBEq, Int.reduceEq, Int.reduceLT, Int.reduceLE, Int.reduceToNat, Int.reduceAdd, Int.reduceSub, Int.reduceNeg, UInt8.reduceToNat]
    refine x_call X cT rfl rfl (by simp) ?_
    simp only [go_sem, Nat.reduceEqDiff, Nat.reduceLT, ↓reduceIte, Nat.reduceAdd, Nat.reduceMul, Nat.reduceLeDiff, Nat.reduceSub, Nat.reduceBEq, Int.reduceEq, Int.reduceLT, Int.reduceLE, Int.reduceToNat, Int.reduceAdd, Int.reduceSub, Int.reduceNeg, UInt8.reduceToNat]
    all_goals decide +kernel
end Go.Proofs.Ytmplpdjddjiioaa
