/-
  A node whose children's places are others; a type in order: the program's answers.
-/
import Derived.Test.YtjoneaifakonjaaDoorZ2
set_option linter.all false
namespace Go.Proofs.YtjoneaifakonjaaDoor
open Go.Ab
theorem f15_ok {G} (ns : List TN) (r0 root : Int) : HP Tryd.prog G 15 [typeS ns r0, i64 root] (fun r => r = .d (.clo 31 (cap31 ns r0 root))) := by
  unfold typeS cap31
  have h : HCall Tryd.prog G 15 [.d (.agg [.sl (some 4) (ns.map nodeD), i64 r0]), .d (i64 root)] [] [] (fun r hp' => r = .clo 31 [.bx [2] 0, .bx [3] 0] ∧ hp' = [([2], .box [.d (.sl (some 4) (ns.map nodeD)), .d (i64 r0)]), ([3], .box [.d (i64 root)])]) := by
    refine funO_ok Tryd.func15 rfl (by decide +kernel) (by simp [Tryd.ntmps15]) (veil fun E => ?_)
    simp only [go_sem, Nat.reduceEqDiff, Nat.reduceLT, ↓reduceIte, Nat.reduceAdd, Nat.reduceMul, Nat.reduceLeDiff, Nat.reduceSub, Nat.reduceBEq, Int.reduceEq, Int.reduceLT, Int.reduceLE, Int.reduceToNat, Int.reduceAdd, Int.reduceSub, Int.reduceNeg, UInt8.reduceToNat]
    refine ⟨_, _, [2, 3], id, ⟨rfl, rfl⟩, ?_⟩
    simp only [go_sem, Nat.reduceEqDiff, Nat.reduceLT, ↓reduceIte, Nat.reduceAdd, Nat.reduceMul, Nat.reduceLeDiff, Nat.reduceSub, Nat.reduceBEq, Int.reduceEq, Int.reduceLT, Int.reduceLE, Int.reduceToNat, Int.reduceAdd, Int.reduceSub, Int.reduceNeg, UInt8.reduceToNat]
  have h2 := HCall.fB (Q' := fun r hp' => r = .clo 31 [.d (.ptr (.agg [.sl (some 4) (ns.map nodeD), i64 r0])), .bx [3] 0] ∧ hp' = [([3], .box [.d (i64 root)])]) h [2] (.agg [.sl (some 4) (ns.map nodeD), i64 r0]) (by
    rintro r hp' ⟨rfl, rfl⟩
    refine ⟨rfl, rfl, ?_, ?_⟩
    · simp only [go_sem, Nat.reduceEqDiff, Nat.reduceLT, ↓reduceIte, Nat.reduceAdd, Nat.reduceMul, Nat.reduceLeDiff, Nat.reduceSub, Nat.reduceBEq, Int.reduceEq, Int.reduceLT, Int.reduceLE, Int.reduceToNat, Int.reduceAdd, Int.reduceSub, Int.reduceNeg, UInt8.reduceToNat]
    · simp only [go_sem, Nat.reduceEqDiff, Nat.reduceLT, ↓reduceIte, Nat.reduceAdd, Nat.reduceMul, Nat.reduceLeDiff, Nat.reduceSub, Nat.reduceBEq, Int.reduceEq, Int.reduceLT, Int.reduceLE, Int.reduceToNat, Int.reduceAdd, Int.reduceSub, Int.reduceNeg, UInt8.reduceToNat])
  have h3 := HCall.fB (Q' := fun r hp' => r = .d (.clo 31 [.ptr (.agg [.sl (some 4) (ns.map nodeD), i64 r0]), .ptr (i64 root)]) ∧ hp' = []) h2 [3] (i64 root) (by
    rintro r hp' ⟨rfl, rfl⟩
    refine ⟨rfl, rfl, ?_, ?_⟩
    · simp only [go_sem, Nat.reduceEqDiff, Nat.reduceLT, ↓reduceIte, Nat.reduceAdd, Nat.reduceMul, Nat.reduceLeDiff, Nat.reduceSub, Nat.reduceBEq, Int.reduceEq, Int.reduceLT, Int.reduceLE, Int.reduceToNat, Int.reduceAdd, Int.reduceSub, Int.reduceNeg, UInt8.reduceToNat]
    · simp only [go_sem, Nat.reduceEqDiff, Nat.reduceLT, ↓reduceIte, Nat.reduceAdd, Nat.reduceMul, Nat.reduceLeDiff, Nat.reduceSub, Nat.reduceBEq, Int.reduceEq, Int.reduceLT, Int.reduceLE, Int.reduceToNat, Int.reduceAdd, Int.reduceSub, Int.reduceNeg, UInt8.reduceToNat])
  exact h3.toHP (ds := [_, _]) fun r hp' ⟨h1, h2⟩ => ⟨⟨h1, by rw [h1]; rfl⟩, h2⟩
def movN (f : Int → Int) (n : TN) : TN := { k := n.k, a := if pairZ n.k then f n.a else n.a, b := if pairZ n.k then f n.b else n.b, l := n.l.map fun q => (q.1, f q.2) }
theorem f34_new {G} (l : List Fld) (hl : l.length ≤ 1000000) : HCall Tryd.prog G 34 [.d (fldsD l)] [] [] (fun r hp' => r = .vw [0] 0 l.length ∧ hp' = [([0], .arr (some 2) (l.map fldD))]) := by
  refine HCall.thaw (Q := fun r hp' => (r = .d .nils ∧ hp' = [] ∧ l = []) ∨ (r = .vw [0] 0 l.length ∧ hp' = [([0], .arr (some 2) (l.map fldD))])) ?_ 0 (some 2) (by simp) ?_
  · unfold fldsD
    refine funO_ok Tryd.func34 rfl (by decide +kernel) (by simp [Tryd.ntmps34]) (veil fun E => ?_)
    simp only [go_sem, Nat.reduceEqDiff, Nat.reduceLT, ↓reduceIte, Nat.reduceAdd, Nat.reduceMul, Nat.reduceLeDiff, Nat.reduceSub, Nat.reduceBEq, Int.reduceEq, Int.reduceLT, Int.reduceLE, Int.reduceToNat, Int.reduceAdd, Int.reduceSub, Int.reduceNeg, UInt8.reduceToNat]
    refine e_nileq E (e := 34) (by simp only [go_sem, Nat.reduceEqDiff, Nat.reduceLT, ↓reduceIte, Nat.reduceAdd, Nat.reduceMul, Nat.reduceLeDiff, Nat.reduceSub, Nat.reduceBEq, Int.reduceEq, Int.reduceLT, Int.reduceLE, Int.reduceToNat, Int.reduceAdd, Int.reduceSub, Int.reduceNeg, UInt8.reduceToNat]) (by simp only [go_sem, Nat.reduceEqDiff, Nat.reduceLT, ↓reduceIte, Nat.reduceAdd, Nat.reduceMul, Nat.reduceLeDiff, Nat.reduceSub, Nat.reduceBEq, Int.reduceEq, Int.reduceLT, Int.reduceLE, Int.reduceToNat, Int.reduceAdd, Int.reduceSub, Int.reduceNeg, UInt8.reduceToNat]) rfl fun b hb => ?_
    simp only [go_sem, Nat.reduceEqDiff, Nat.reduceLT, ↓reduceIte, Nat.reduceAdd, Nat.reduceMul, Nat.reduceLeDiff, Nat.reduceSub, Nat.reduceBEq, Int.reduceEq, Int.reduceLT, Int.reduceLE, Int.reduceToNat, Int.reduceAdd, Int.reduceSub, Int.reduceNeg, UInt8.reduceToNat]
    refine e_if E (fun h => ?_) (fun h => ?_) <;> simp only [go_sem, Nat.reduceEqDiff, Nat.reduceLT, ↓reduceIte, Nat.reduceAdd, Nat.reduceMul, Nat.reduceLeDiff, Nat.reduceSub, Nat.reduceBEq, Int.reduceEq, Int.reduceLT, Int.reduceLE, Int.reduceToNat, Int.reduceAdd, Int.reduceSub, Int.reduceNeg, UInt8.reduceToNat]
    · have : l = [] := by simpa using hb h
      subst this
      refine ⟨_, [], [], id, .inl ⟨rfl, rfl, rfl⟩, ?_⟩
      simp only [go_sem, Nat.reduceEqDiff, Nat.reduceLT, ↓reduceIte, Nat.reduceAdd, Nat.reduceMul, Nat.reduceLeDiff, Nat.reduceSub, Nat.reduceBEq, Int.reduceEq, Int.reduceLT, Int.reduceLE, Int.reduceToNat, Int.reduceAdd, Int.reduceSub, Int.reduceNeg, UInt8.reduceToNat]
    · refine ⟨by omega, _, _, [0], tau [([0], [7])], .inr ⟨rfl, rfl⟩, ?_⟩
      simp only [go_sem, Nat.reduceEqDiff, Nat.reduceLT, ↓reduceIte, Nat.reduceAdd, Nat.reduceMul, Nat.reduceLeDiff, Nat.reduceSub, Nat.reduceBEq, Int.reduceEq, Int.reduceLT, Int.reduceLE, Int.reduceToNat, Int.reduceAdd, Int.reduceSub, Int.reduceNeg, UInt8.reduceToNat]
  · rintro r hp' (⟨rfl, rfl, rfl⟩ | h)
    · exact .inr ⟨rfl, rfl, rfl, rfl⟩
    · exact .inl h
def movL (f : Int → Int) (l : List Fld) (i : Nat) : List Fld := (l.take i).map (fun q => (q.1, f q.2)) ++ l.drop i
theorem movL_len (f : Int → Int) (l : List Fld) (i : Nat) : (movL f l i).length = l.length := by simp [movL]; omega
theorem movL_zero (f : Int → Int) (l : List Fld) : movL f l 0 = l := by simp [movL]
theorem movL_end (f : Int → Int) (l : List Fld) : movL f l l.length = l.map fun q => (q.1, f q.2) := by simp [movL]
theorem movL_get {f : Int → Int} {l : List Fld} {i : Nat} (h : i < l.length) : ((movL f l i).map fldD).getD i .nilp = .agg [.str (fnm l i), i64 (l.getD i ([], 0)).2] := by
  have h1 : i ≤ l.length := by omega
  simp [movL, List.getElem?_append_right, h1, h, fnm, fldD]
theorem movL_set {f : Int → Int} {l : List Fld} {i : Nat} (h : i < l.length) : ((movL f l i).map fldD).set i (.agg [.str (fnm l i), i64 (f (l.getD i ([], 0)).2)]) = (movL f l (i + 1)).map fldD := by
  have h1 : (l.take i).length = i := by simp; omega
  have h2 : (l.drop i) = l[i] :: l.drop (i + 1) := List.drop_eq_getElem_cons h
  have h3 : l.take (i + 1) = l.take i ++ [l[i]] := by rw [List.take_succ_eq_append_getElem h]
  simp only [movL, h2, h3, List.map_append, List.map_cons, List.map_nil]
  rw [List.set_append_right _ _ (by simp; omega)]
  simp [h, fnm, fldD, Nat.min_eq_left (Nat.le_of_lt h)]
set_option maxHeartbeats 1000000 in
theorem f16_ok {G} (n : TN) (f : Int → Int) (g : Nat) (caps : List D) (hl : n.l.length ≤ 1000000) (hc : ∀ x : Int, x ∈ kidsL n → HP Tryd.prog G g (i64 x :: caps) (fun r => r = .d (i64 (f x)))) (hw : ∀ i, i < n.l.length → (n.l.getD i ([], 0)).2 ∈ kidsL n) :
    HP Tryd.prog G 16 [nodeD n, .clo g caps] (fun r => r = .d (nodeD (movN f n))) := by
  unfold nodeD
  refine funZ_ok Tryd.func16 rfl (by decide +kernel) (by simp [Tryd.ntmps16]) (veil fun E => ?_)
  simp only [go_sem, Nat.reduceEqDiff, Nat.reduceLT, ↓reduceIte, Nat.reduceAdd, Nat.reduceMul, Nat.reduceLeDiff, Nat.reduceSub, Nat.reduceBEq, Int.reduceEq, Int.reduceLT, Int.reduceLE, Int.reduceToNat, Int.reduceAdd, Int.reduceSub, Int.reduceNeg, UInt8.reduceToNat]
  refine e_call E (f23_ok n.k) rfl rfl (by simp) ?_
  rintro _ rfl
  simp only [go_sem, Nat.reduceEqDiff, Nat.reduceLT, ↓reduceIte, Nat.reduceAdd, Nat.reduceMul, Nat.reduceLeDiff, Nat.reduceSub, Nat.reduceBEq, Int.reduceEq, Int.reduceLT, Int.reduceLE, Int.reduceToNat, Int.reduceAdd, Int.reduceSub, Int.reduceNeg, UInt8.reduceToNat]
  refine e_if E (fun h => ?_) (fun h => ?_) <;> simp only [go_sem, Nat.reduceEqDiff, Nat.reduceLT, ↓reduceIte, Nat.reduceAdd, Nat.reduceMul, Nat.reduceLeDiff, Nat.reduceSub, Nat.reduceBEq, Int.reduceEq, Int.reduceLT, Int.reduceLE, Int.reduceToNat, Int.reduceAdd, Int.reduceSub, Int.reduceNeg, UInt8.reduceToNat]
  · refine region_xv mixed E fun X => ?_
    simp only [go_sem, Nat.reduceEqDiff, Nat.reduceLT, ↓reduceIte, Nat.reduceAdd, Nat.reduceMul, Nat.reduceLeDiff, Nat.reduceSub, Nat.reduceBEq, Int.reduceEq, Int.reduceLT, Int.reduceLE, Int.reduceToNat, Int.reduceAdd, Int.reduceSub, Int.reduceNeg, UInt8.reduceToNat]
    refine x_callD X (ds := [i64 n.a]) (hc n.a (by simp [kidsL, h])) rfl rfl (by simp) rfl (by simp) ?_
    simp only [go_sem, Nat.reduceEqDiff, Nat.reduceLT, ↓reduceIte, Nat.reduceAdd, Nat.reduceMul, Nat.reduceLeDiff, Nat.reduceSub, Nat.reduceBEq, Int.reduceEq, Int.reduceLT, Int.reduceLE, Int.reduceToNat, Int.reduceAdd, Int.reduceSub, Int.reduceNeg, UInt8.reduceToNat]
    refine x_callD X (ds := [i64 n.b]) (hc n.b (by simp [kidsL, h])) rfl rfl (by simp) rfl (by simp) ?_
    simp only [go_sem, Nat.reduceEqDiff, Nat.reduceLT, ↓reduceIte, Nat.reduceAdd, Nat.reduceMul, Nat.reduceLeDiff, Nat.reduceSub, Nat.reduceBEq, Int.reduceEq, Int.reduceLT, Int.reduceLE, Int.reduceToNat, Int.reduceAdd, Int.reduceSub, Int.reduceNeg, UInt8.reduceToNat]
    refine ⟨by decide +kernel, ?_⟩
    refine e_callO E [.d (fldsD n.l)] [] [] (f34_new n.l hl) rfl rfl ⟨by simp only [go_sem, Nat.reduceEqDiff, Nat.reduceLT, ↓reduceIte, Nat.reduceAdd, Nat.reduceMul, Nat.reduceLeDiff, Nat.reduceSub, Nat.reduceBEq, Int.reduceEq, Int.reduceLT, Int.reduceLE, Int.reduceToNat, Int.reduceAdd, Int.reduceSub, Int.reduceNeg, UInt8.reduceToNat], by rw [mk_used]; decide⟩ rfl (by simp only [go_sem, Nat.reduceEqDiff, Nat.reduceLT, ↓reduceIte, Nat.reduceAdd, Nat.reduceMul, Nat.reduceLeDiff, Nat.reduceSub, Nat.reduceBEq, Int.reduceEq, Int.reduceLT, Int.reduceLE, Int.reduceToNat, Int.reduceAdd, Int.reduceSub, Int.reduceNeg, UInt8.reduceToNat]) (by simp only [go_sem, Nat.reduceEqDiff, Nat.reduceLT, ↓reduceIte, Nat.reduceAdd, Nat.reduceMul, Nat.reduceLeDiff, Nat.reduceSub, Nat.reduceBEq, Int.reduceEq, Int.reduceLT, Int.reduceLE, Int.reduceToNat, Int.reduceAdd, Int.reduceSub, Int.reduceNeg, UInt8.reduceToNat]) ?_
    rintro _ _ ⟨rfl, rfl⟩
    simp only [go_sem, Nat.reduceEqDiff, Nat.reduceLT, ↓reduceIte, Nat.reduceAdd, Nat.reduceMul, Nat.reduceLeDiff, Nat.reduceSub, Nat.reduceBEq, Int.reduceEq, Int.reduceLT, Int.reduceLE, Int.reduceToNat, Int.reduceAdd, Int.reduceSub, Int.reduceNeg, UInt8.reduceToNat]
    refine loopO_e E (X := { i : Nat // i ≤ n.l.length }) (fun x => [(1, .d (.clo g caps)), (2, .bx [2] 0), (4, .bx [4] 0), (25, .d (i64 n.l.length)), (26, .d (i64 x.1))])
      (fun x => [([2], .box [.d (i64 n.k), .d (i64 (f n.a)), .d (i64 (f n.b)), .vw [21, 0] 0 n.l.length]), ([4], .box [.d (i64 0), .d (i64 0), .d (i64 0), .d .nils]), ([21, 0], .arr (some 2) ((movL f n.l x.1).map fldD))]) [21, 4, 2] (fun x => n.l.length - x.1) ⟨0, Nat.zero_le _⟩ ?_ ?_
    · simp only [go_sem, Nat.reduceEqDiff, Nat.reduceLT, ↓reduceIte, Nat.reduceAdd, Nat.reduceMul, Nat.reduceLeDiff, Nat.reduceSub, Nat.reduceBEq, Int.reduceEq, Int.reduceLT, Int.reduceLE, Int.reduceToNat, Int.reduceAdd, Int.reduceSub, Int.reduceNeg, UInt8.reduceToNat]
      rw [movL_zero]
      all_goals rfl
    rintro ⟨i, hi⟩ E0
    refine hideQ E0 fun Q' hQ E' => ?_
    simp only at hi ⊢
    simp only [go_sem, Nat.reduceEqDiff, Nat.reduceLT, ↓reduceIte, Nat.reduceAdd, Nat.reduceMul, Nat.reduceLeDiff, Nat.reduceSub, Nat.reduceBEq, Int.reduceEq, Int.reduceLT, Int.reduceLE, Int.reduceToNat, Int.reduceAdd, Int.reduceSub, Int.reduceNeg, UInt8.reduceToNat]
    refine e_ifd E' (fun h1 => ?_) (fun h1 => ?_) <;> simp only [go_sem, Nat.reduceEqDiff, Nat.reduceLT, ↓reduceIte, Nat.reduceAdd, Nat.reduceMul, Nat.reduceLeDiff, Nat.reduceSub, Nat.reduceBEq, Int.reduceEq, Int.reduceLT, Int.reduceLE, Int.reduceToNat, Int.reduceAdd, Int.reduceSub, Int.reduceNeg, UInt8.reduceToNat]
    · have h1' : i < n.l.length := by omega
      refine region_xv mixed E' fun X => ?_
      simp only [go_sem, Nat.reduceEqDiff, Nat.reduceLT, ↓reduceIte, Nat.reduceAdd, Nat.reduceMul, Nat.reduceLeDiff, Nat.reduceSub, Nat.reduceBEq, Int.reduceEq, Int.reduceLT, Int.reduceLE, Int.reduceToNat, Int.reduceAdd, Int.reduceSub, Int.reduceNeg, UInt8.reduceToNat]
      refine ⟨⟨by omega, by omega⟩, ?_⟩
      rw [movL_get h1']
      simp only [go_sem, Nat.reduceEqDiff, Nat.reduceLT, ↓reduceIte, Nat.reduceAdd, Nat.reduceMul, Nat.reduceLeDiff, Nat.reduceSub, Nat.reduceBEq, Int.reduceEq, Int.reduceLT, Int.reduceLE, Int.reduceToNat, Int.reduceAdd, Int.reduceSub, Int.reduceNeg, UInt8.reduceToNat]
      refine x_callD X (ds := [i64 (n.l.getD i ([], 0)).2]) (hc _ (hw i h1')) rfl rfl (by simp) rfl (by simp) ?_
      simp only [go_sem, Nat.reduceEqDiff, Nat.reduceLT, ↓reduceIte, Nat.reduceAdd, Nat.reduceMul, Nat.reduceLeDiff, Nat.reduceSub, Nat.reduceBEq, Int.reduceEq, Int.reduceLT, Int.reduceLE, Int.reduceToNat, Int.reduceAdd, Int.reduceSub, Int.reduceNeg, UInt8.reduceToNat]
      refine ⟨⟨by omega, by omega⟩, ?_⟩
      rw [movL_get h1']
      simp only [go_sem, Nat.reduceEqDiff, Nat.reduceLT, ↓reduceIte, Nat.reduceAdd, Nat.reduceMul, Nat.reduceLeDiff, Nat.reduceSub, Nat.reduceBEq, Int.reduceEq, Int.reduceLT, Int.reduceLE, Int.reduceToNat, Int.reduceAdd, Int.reduceSub, Int.reduceNeg, UInt8.reduceToNat]
      rw [movL_set h1']
      refine ⟨by decide +kernel, ?_⟩
      rw [hQ]
      simp only [go_sem, Nat.reduceEqDiff, Nat.reduceLT, ↓reduceIte, Nat.reduceAdd, Nat.reduceMul, Nat.reduceLeDiff, Nat.reduceSub, Nat.reduceBEq, Int.reduceEq, Int.reduceLT, Int.reduceLE, Int.reduceToNat, Int.reduceAdd, Int.reduceSub, Int.reduceNeg, UInt8.reduceToNat]
      refine ⟨⟨i + 1, by omega⟩, by show n.l.length - (i + 1) < _; omega, ?_⟩
      rw [w64_in ⟨by omega, by omega⟩]
      exact ⟨rfl, rfl⟩
    · have h3 : i = n.l.length := by omega
      subst h3
      rw [hQ]
      simp only [go_sem, Nat.reduceEqDiff, Nat.reduceLT, ↓reduceIte, Nat.reduceAdd, Nat.reduceMul, Nat.reduceLeDiff, Nat.reduceSub, Nat.reduceBEq, Int.reduceEq, Int.reduceLT, Int.reduceLE, Int.reduceToNat, Int.reduceAdd, Int.reduceSub, Int.reduceNeg, UInt8.reduceToNat]
      refine ⟨[([21, 0], some 2, (movL f n.l n.l.length).map fldD)], ?_⟩
      simp only [go_sem, Nat.reduceEqDiff, Nat.reduceLT, ↓reduceIte, Nat.reduceAdd, Nat.reduceMul, Nat.reduceLeDiff, Nat.reduceSub, Nat.reduceBEq, Int.reduceEq, Int.reduceLT, Int.reduceLE, Int.reduceToNat, Int.reduceAdd, Int.reduceSub, Int.reduceNeg, UInt8.reduceToNat]
      rw [List.take_of_length_le (by simp [movL_len]), movL_end]
      simp [movN, h, fldsD]
  · refine e_callO E [.d (fldsD n.l)] [] [] (f34_new n.l hl) rfl rfl ⟨by simp only [go_sem, Nat.reduceEqDiff, Nat.reduceLT, ↓reduceIte, Nat.reduceAdd, Nat.reduceMul, Nat.reduceLeDiff, Nat.reduceSub, Nat.reduceBEq, Int.reduceEq, Int.reduceLT, Int.reduceLE, Int.reduceToNat, Int.reduceAdd, Int.reduceSub, Int.reduceNeg, UInt8.reduceToNat], by rw [mk_used]; decide⟩ rfl (by simp only [go_sem, Nat.reduceEqDiff, Nat.reduceLT, ↓reduceIte, Nat.reduceAdd, Nat.reduceMul, Nat.reduceLeDiff, Nat.reduceSub, Nat.reduceBEq, Int.reduceEq, Int.reduceLT, Int.reduceLE, Int.reduceToNat, Int.reduceAdd, Int.reduceSub, Int.reduceNeg, UInt8.reduceToNat]) (by simp only [go_sem, Nat.reduceEqDiff, Nat.reduceLT, ↓reduceIte, Nat.reduceAdd, Nat.reduceMul, Nat.reduceLeDiff, Nat.reduceSub, Nat.reduceBEq, Int.reduceEq, Int.reduceLT, Int.reduceLE, Int.reduceToNat, Int.reduceAdd, Int.reduceSub, Int.reduceNeg, UInt8.reduceToNat]) ?_
    rintro _ _ ⟨rfl, rfl⟩
    simp only [go_sem, Nat.reduceEqDiff, Nat.reduceLT, ↓reduceIte, Nat.reduceAdd, Nat.reduceMul, Nat.reduceLeDiff, Nat.reduceSub, Nat.reduceBEq, Int.reduceEq, Int.reduceLT, Int.reduceLE, Int.reduceToNat, Int.reduceAdd, Int.reduceSub, Int.reduceNeg, UInt8.reduceToNat]
    refine loopO_e E (X := { i : Nat // i ≤ n.l.length }) (fun x => [(1, .d (.clo g caps)), (2, .bx [2] 0), (4, .bx [4] 0), (25, .d (i64 n.l.length)), (26, .d (i64 x.1))])
      (fun x => [([2], .box [.d (i64 n.k), .d (i64 n.a), .d (i64 n.b), .vw [21, 0] 0 n.l.length]), ([4], .box [.d (i64 0), .d (i64 0), .d (i64 0), .d .nils]), ([21, 0], .arr (some 2) ((movL f n.l x.1).map fldD))]) [21, 4, 2] (fun x => n.l.length - x.1) ⟨0, Nat.zero_le _⟩ ?_ ?_
    · simp only [go_sem, Nat.reduceEqDiff, Nat.reduceLT, ↓reduceIte, Nat.reduceAdd, Nat.reduceMul, Nat.reduceLeDiff, Nat.reduceSub, Nat.reduceBEq, Int.reduceEq, Int.reduceLT, Int.reduceLE, Int.reduceToNat, Int.reduceAdd, Int.reduceSub, Int.reduceNeg, UInt8.reduceToNat]
      rw [movL_zero]
      all_goals rfl
    rintro ⟨i, hi⟩ E0
    refine hideQ E0 fun Q' hQ E' => ?_
    simp only at hi ⊢
    simp only [go_sem, Nat.reduceEqDiff, Nat.reduceLT, ↓reduceIte, Nat.reduceAdd, Nat.reduceMul, Nat.reduceLeDiff, Nat.reduceSub, Nat.reduceBEq, Int.reduceEq, Int.reduceLT, Int.reduceLE, Int.reduceToNat, Int.reduceAdd, Int.reduceSub, Int.reduceNeg, UInt8.reduceToNat]
    refine e_ifd E' (fun h1 => ?_) (fun h1 => ?_) <;> simp only [go_sem, Nat.reduceEqDiff, Nat.reduceLT, ↓reduceIte, Nat.reduceAdd, Nat.reduceMul, Nat.reduceLeDiff, Nat.reduceSub, Nat.reduceBEq, Int.reduceEq, Int.reduceLT, Int.reduceLE, Int.reduceToNat, Int.reduceAdd, Int.reduceSub, Int.reduceNeg, UInt8.reduceToNat]
    · have h1' : i < n.l.length := by omega
      refine region_xv mixed E' fun X => ?_
      simp only [go_sem, Nat.reduceEqDiff, Nat.reduceLT, ↓reduceIte, Nat.reduceAdd, Nat.reduceMul, Nat.reduceLeDiff, Nat.reduceSub, Nat.reduceBEq, Int.reduceEq, Int.reduceLT, Int.reduceLE, Int.reduceToNat, Int.reduceAdd, Int.reduceSub, Int.reduceNeg, UInt8.reduceToNat]
      refine ⟨⟨by omega, by omega⟩, ?_⟩
      rw [movL_get h1']
      simp only [go_sem, Nat.reduceEqDiff, Nat.reduceLT, ↓reduceIte, Nat.reduceAdd, Nat.reduceMul, Nat.reduceLeDiff, Nat.reduceSub, Nat.reduceBEq, Int.reduceEq, Int.reduceLT, Int.reduceLE, Int.reduceToNat, Int.reduceAdd, Int.reduceSub, Int.reduceNeg, UInt8.reduceToNat]
      refine x_callD X (ds := [i64 (n.l.getD i ([], 0)).2]) (hc _ (hw i h1')) rfl rfl (by simp) rfl (by simp) ?_
      simp only [go_sem, Nat.reduceEqDiff, Nat.reduceLT, ↓reduceIte, Nat.reduceAdd, Nat.reduceMul, Nat.reduceLeDiff, Nat.reduceSub, Nat.reduceBEq, Int.reduceEq, Int.reduceLT, Int.reduceLE, Int.reduceToNat, Int.reduceAdd, Int.reduceSub, Int.reduceNeg, UInt8.reduceToNat]
      refine ⟨⟨by omega, by omega⟩, ?_⟩
      rw [movL_get h1']
      simp only [go_sem, Nat.reduceEqDiff, Nat.reduceLT, ↓reduceIte, Nat.reduceAdd, Nat.reduceMul, Nat.reduceLeDiff, Nat.reduceSub, Nat.reduceBEq, Int.reduceEq, Int.reduceLT, Int.reduceLE, Int.reduceToNat, Int.reduceAdd, Int.reduceSub, Int.reduceNeg, UInt8.reduceToNat]
      rw [movL_set h1']
      refine ⟨by decide +kernel, ?_⟩
      rw [hQ]
      simp only [go_sem, Nat.reduceEqDiff, Nat.reduceLT, ↓reduceIte, Nat.reduceAdd, Nat.reduceMul, Nat.reduceLeDiff, Nat.reduceSub, Nat.reduceBEq, Int.reduceEq, Int.reduceLT, Int.reduceLE, Int.reduceToNat, Int.reduceAdd, Int.reduceSub, Int.reduceNeg, UInt8.reduceToNat]
      refine ⟨⟨i + 1, by omega⟩, by show n.l.length - (i + 1) < _; omega, ?_⟩
      rw [w64_in ⟨by omega, by omega⟩]
      exact ⟨rfl, rfl⟩
    · have h3 : i = n.l.length := by omega
      subst h3
      rw [hQ]
      simp only [go_sem, Nat.reduceEqDiff, Nat.reduceLT, ↓reduceIte, Nat.reduceAdd, Nat.reduceMul, Nat.reduceLeDiff, Nat.reduceSub, Nat.reduceBEq, Int.reduceEq, Int.reduceLT, Int.reduceLE, Int.reduceToNat, Int.reduceAdd, Int.reduceSub, Int.reduceNeg, UInt8.reduceToNat]
      refine ⟨[([21, 0], some 2, (movL f n.l n.l.length).map fldD)], ?_⟩
      simp only [go_sem, Nat.reduceEqDiff, Nat.reduceLT, ↓reduceIte, Nat.reduceAdd, Nat.reduceMul, Nat.reduceLeDiff, Nat.reduceSub, Nat.reduceBEq, Int.reduceEq, Int.reduceLT, Int.reduceLE, Int.reduceToNat, Int.reduceAdd, Int.reduceSub, Int.reduceNeg, UInt8.reduceToNat]
      rw [List.take_of_length_le (by simp [movL_len]), movL_end]
      simp [movN, h, fldsD]
/-- What the places' map holds. -/
def atMs (l : List Int) (k : Nat) : List (Int × D) := (List.range k).map fun i => (l.getD i 0, i64 (i : Nat))
theorem atMs_look {l : List Int} (hn : l.Nodup) : ∀ {k : Nat}, k ≤ l.length → ∀ x, l.idxOf x < k → mlook (atMs l k) x = some (i64 (l.idxOf x : Nat)) := by
  intro k
  have key : ∀ (a b : List (Int × D)) (x : Int), (∀ q ∈ a, q.1 ≠ x) → mlook (a ++ b) x = mlook b x := by
    intro a b x h
    induction a with
    | nil => rfl
    | cons q r ih =>
      simp only [List.cons_append, mlook]
      rw [if_neg (h q List.mem_cons_self)]
      exact ih fun y hy => h y (List.mem_cons_of_mem _ hy)
  induction k with
  | zero => intro _ x hx; omega
  | succ k ih =>
    intro hk x hx
    by_cases e : l.idxOf x = k
    · have hlk : k < l.length := by omega
      have hget : l.getD k 0 = x := by
        have : l.idxOf x < l.length := by omega
        have h2 : l[l.idxOf x] = x := List.getElem_idxOf this
        simp only [e] at h2
        simp [hlk, h2]
      rw [atMs, List.range_succ, List.map_append, key]
      · simp only [List.map_cons, List.map_nil, mlook]
        rw [if_pos hget, e]
      · intro q hq
        obtain ⟨i, hi, rfl⟩ := List.mem_map.1 hq
        have hi := List.mem_range.1 hi
        intro e2
        simp only at e2
        have hil : i < l.length := by omega
        have : l.idxOf x = i := by rw [← e2]; simp [hil]; exact nodup_idx hn hil
        omega
    · have hx' : l.idxOf x < k := by omega
      have h1 := ih (by omega) x hx'
      have : mlook (atMs l k ++ [(l.getD k 0, i64 (k : Nat))]) x = mlook (atMs l k) x := by
        have key2 : ∀ (a b : List (Int × D)) (d : D), mlook a x = some d → mlook (a ++ b) x = some d := by
          intro a b d h
          induction a with
          | nil => cases h
          | cons q r ih =>
            simp only [List.cons_append, mlook] at h ⊢
            split at h
            · rename_i e; rw [if_pos e]; exact h
            · rename_i e; rw [if_neg e]; exact ih h
        rw [h1]; exact key2 _ _ _ h1
      rw [atMs, List.range_succ, List.map_append]
      exact this.trans h1
theorem atMs_new {l : List Int} (hn : l.Nodup) {k : Nat} (hk : k < l.length) : mset (atMs l k) (l.getD k 0) (i64 (k : Nat)) = atMs l (k + 1) := by
  rw [mset_new]
  · rw [atMs, atMs, List.range_succ, List.map_append]; rfl
  · intro q hq
    obtain ⟨i, hi, rfl⟩ := List.mem_map.1 hq
    have hi := List.mem_range.1 hi
    intro e
    simp only at e
    have hil : i < l.length := by omega
    have h1 : l.idxOf l[i] = i := nodup_idx hn hil
    have h2 : l.idxOf l[k] = k := nodup_idx hn hk
    have : l[i] = l[k] := by simpa [hil, hk] using e
    rw [this, h2] at h1
    omega
theorem zero3 : zeroD Tryd.prog 3 = some (i64 0) := by kernel_rfl
theorem keyI : KeyE Tryd.prog 3 (fun n : Int => i64 n) (fun n => .int .i64 n) := keyInt (by rw [ti3])
end Go.Proofs.YtjoneaifakonjaaDoor
