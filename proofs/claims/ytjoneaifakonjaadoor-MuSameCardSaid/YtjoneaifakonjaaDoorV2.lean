/-
  Nodes' kinds, children, sides; lists of numbers.
-/
import Derived.Test.YtjoneaifakonjaaDoorV1
import Derived.Test.YtjoneaifakonjaaDoorH9
set_option linter.all false
namespace Go.Proofs.YtjoneaifakonjaaDoor
open Go.Ab
def pairZ (k : Int) : Bool := (decide (k = 6) || decide (k = 9)) || decide (k = 10)
def wideZ (k : Int) : Bool := decide (k = 7) || decide (k = 8)
def latZ (k : Int) : Bool := decide (k = 9) || decide (k = 10)
def kidsL (n : TN) : List Int := if pairZ n.k then [n.a, n.b] else if wideZ n.k then n.l.map (·.2) else []
def flipZ (s : Int) : Int := if s = 1 then 2 else if s = 2 then 1 else if s = 3 then 3 else 0
def intsD (l : List Int) : D := .sl none (l.map i64)
def typeS (ns : List TN) (root : Int) : D := .agg [.sl (some 4) (ns.map nodeD), i64 root]
/-- What is handed back stands for this. -/
def WkR (d : D) (r : AV) : Prop := ∃ a, r = .d a ∧ Wk a d
theorem hp_wk {P : Program} {G : List (Nat × Obj)} {f : FuncId} {ds : List D} {d : D} (h : HP P G f ds (WkR d)) : HP P G f ds (fun r => r = .d d) :=
  h.wkr fun _ ⟨a, e, hw⟩ => ⟨a, d, e, hw, rfl⟩
theorem f23_ok {G} (k : Int) : HP Tryd.prog G 23 [i64 k] (fun r => r = .d (.bool (pairZ k))) := by
  refine funP_ok Tryd.func23 rfl (by decide +kernel) (by simp [Tryd.ntmps23]) (veil fun E => ?_)
  simp only [go_sem, Nat.reduceEqDiff, Nat.reduceLT, ↓reduceIte, Nat.reduceAdd, Nat.reduceMul, Nat.reduceLeDiff, Nat.reduceSub, Nat.reduceBEq, Int.reduceEq, Int.reduceLT, Int.reduceLE, Int.reduceToNat, Int.reduceAdd, Int.reduceSub, Int.reduceNeg, UInt8.reduceToNat]
  refine e_gifd E (fun h1 => ?_) (fun h1 => ?_) <;> simp only [go_sem, Nat.reduceEqDiff, Nat.reduceLT, ↓reduceIte, Nat.reduceAdd, Nat.reduceMul, Nat.reduceLeDiff, Nat.reduceSub, Nat.reduceBEq, Int.reduceEq, Int.reduceLT, Int.reduceLE, Int.reduceToNat, Int.reduceAdd, Int.reduceSub, Int.reduceNeg, UInt8.reduceToNat]
  · simp [pairZ, h1]
  refine e_gifd E (fun h2 => ?_) (fun h2 => ?_) <;> simp only [go_sem, Nat.reduceEqDiff, Nat.reduceLT, ↓reduceIte, Nat.reduceAdd, Nat.reduceMul, Nat.reduceLeDiff, Nat.reduceSub, Nat.reduceBEq, Int.reduceEq, Int.reduceLT, Int.reduceLE, Int.reduceToNat, Int.reduceAdd, Int.reduceSub, Int.reduceNeg, UInt8.reduceToNat]
  · simp [pairZ, h1, h2]
  · simp [pairZ, h1, h2]
theorem f24_ok {G} (k : Int) : HP Tryd.prog G 24 [i64 k] (fun r => r = .d (.bool (wideZ k))) := by
  refine funP_ok Tryd.func24 rfl (by decide +kernel) (by simp [Tryd.ntmps24]) (veil fun E => ?_)
  simp only [go_sem, Nat.reduceEqDiff, Nat.reduceLT, ↓reduceIte, Nat.reduceAdd, Nat.reduceMul, Nat.reduceLeDiff, Nat.reduceSub, Nat.reduceBEq, Int.reduceEq, Int.reduceLT, Int.reduceLE, Int.reduceToNat, Int.reduceAdd, Int.reduceSub, Int.reduceNeg, UInt8.reduceToNat]
  refine e_gifd E (fun h1 => ?_) (fun h1 => ?_) <;> simp only [go_sem, Nat.reduceEqDiff, Nat.reduceLT, ↓reduceIte, Nat.reduceAdd, Nat.reduceMul, Nat.reduceLeDiff, Nat.reduceSub, Nat.reduceBEq, Int.reduceEq, Int.reduceLT, Int.reduceLE, Int.reduceToNat, Int.reduceAdd, Int.reduceSub, Int.reduceNeg, UInt8.reduceToNat]
  · simp [wideZ, h1]
  · simp [wideZ, h1]
theorem f30_ok {G} (k : Int) : HP Tryd.prog G 30 [i64 k] (fun r => r = .d (.bool (latZ k))) := by
  refine funP_ok Tryd.func30 rfl (by decide +kernel) (by simp [Tryd.ntmps30]) (veil fun E => ?_)
  simp only [go_sem, Nat.reduceEqDiff, Nat.reduceLT, ↓reduceIte, Nat.reduceAdd, Nat.reduceMul, Nat.reduceLeDiff, Nat.reduceSub, Nat.reduceBEq, Int.reduceEq, Int.reduceLT, Int.reduceLE, Int.reduceToNat, Int.reduceAdd, Int.reduceSub, Int.reduceNeg, UInt8.reduceToNat]
  refine e_gifd E (fun h1 => ?_) (fun h1 => ?_) <;> simp only [go_sem, Nat.reduceEqDiff, Nat.reduceLT, ↓reduceIte, Nat.reduceAdd, Nat.reduceMul, Nat.reduceLeDiff, Nat.reduceSub, Nat.reduceBEq, Int.reduceEq, Int.reduceLT, Int.reduceLE, Int.reduceToNat, Int.reduceAdd, Int.reduceSub, Int.reduceNeg, UInt8.reduceToNat]
  · simp [latZ, h1]
  · simp [latZ, h1]
theorem kids_app {l : List Fld} {i : Nat} (h : i < l.length) : (l.take i).map (fun f => i64 f.2) ++ [i64 l[i].2] = (l.take (i + 1)).map fun f => i64 f.2 := by
  rw [List.take_succ_eq_append_getElem h, List.map_append]
  rfl
theorem f27_ok {G} (n : TN) (hl : n.l.length ≤ 1000000) : HP Tryd.prog G 27 [nodeD n] (fun r => r = .d (intsD (kidsL n))) := by
  refine hp_wk ?_
  unfold nodeD fldsD
  refine funZ_ok Tryd.func27 rfl (by decide +kernel) (by simp [Tryd.ntmps27]) (veil fun E => ?_)
  simp only [go_sem, Nat.reduceEqDiff, Nat.reduceLT, ↓reduceIte, Nat.reduceAdd, Nat.reduceMul, Nat.reduceLeDiff, Nat.reduceSub, Nat.reduceBEq, Int.reduceEq, Int.reduceLT, Int.reduceLE, Int.reduceToNat, Int.reduceAdd, Int.reduceSub, Int.reduceNeg, UInt8.reduceToNat]
  refine e_call E (f23_ok n.k) rfl rfl (by simp) ?_
  rintro _ rfl
  simp only [go_sem, Nat.reduceEqDiff, Nat.reduceLT, ↓reduceIte, Nat.reduceAdd, Nat.reduceMul, Nat.reduceLeDiff, Nat.reduceSub, Nat.reduceBEq, Int.reduceEq, Int.reduceLT, Int.reduceLE, Int.reduceToNat, Int.reduceAdd, Int.reduceSub, Int.reduceNeg, UInt8.reduceToNat]
  refine e_if E (fun hp => ?_) (fun hp => ?_) <;> simp only [go_sem, Nat.reduceEqDiff, Nat.reduceLT, ↓reduceIte, Nat.reduceAdd, Nat.reduceMul, Nat.reduceLeDiff, Nat.reduceSub, Nat.reduceBEq, Int.reduceEq, Int.reduceLT, Int.reduceLE, Int.reduceToNat, Int.reduceAdd, Int.reduceSub, Int.reduceNeg, UInt8.reduceToNat]
  · refine ⟨[([13], none, [i64 n.a, i64 n.b])], ?_⟩
    simp only [go_sem, Nat.reduceEqDiff, Nat.reduceLT, ↓reduceIte, Nat.reduceAdd, Nat.reduceMul, Nat.reduceLeDiff, Nat.reduceSub, Nat.reduceBEq, Int.reduceEq, Int.reduceLT, Int.reduceLE, Int.reduceToNat, Int.reduceAdd, Int.reduceSub, Int.reduceNeg, UInt8.reduceToNat]
    refine ⟨_, rfl, ?_⟩
    simp only [intsD, kidsL, hp, if_true, List.map_cons, List.map_nil]
    exact .refl _
  refine e_call E (f24_ok n.k) rfl rfl (by simp) ?_
  rintro _ rfl
  simp only [go_sem, Nat.reduceEqDiff, Nat.reduceLT, ↓reduceIte, Nat.reduceAdd, Nat.reduceMul, Nat.reduceLeDiff, Nat.reduceSub, Nat.reduceBEq, Int.reduceEq, Int.reduceLT, Int.reduceLE, Int.reduceToNat, Int.reduceAdd, Int.reduceSub, Int.reduceNeg, UInt8.reduceToNat]
  refine e_if E (fun hw => ?_) (fun hw => ?_) <;> simp only [go_sem, Nat.reduceEqDiff, Nat.reduceLT, ↓reduceIte, Nat.reduceAdd, Nat.reduceMul, Nat.reduceLeDiff, Nat.reduceSub, Nat.reduceBEq, Int.reduceEq, Int.reduceLT, Int.reduceLE, Int.reduceToNat, Int.reduceAdd, Int.reduceSub, Int.reduceNeg, UInt8.reduceToNat]
  · refine c_frB E [1] (.agg [i64 n.k, i64 n.a, i64 n.b, .sl (some 2) (n.l.map fldD)]) rfl rfl ?_
    simp only [go_sem, Nat.reduceEqDiff, Nat.reduceLT, ↓reduceIte, Nat.reduceAdd, Nat.reduceMul, Nat.reduceLeDiff, Nat.reduceSub, Nat.reduceBEq, Int.reduceEq, Int.reduceLT, Int.reduceLE, Int.reduceToNat, Int.reduceAdd, Int.reduceSub, Int.reduceNeg, UInt8.reduceToNat]
    refine c_thaw E 3 99 none rfl (by rw [mk_used]; decide) ?_
    simp only [go_sem, Nat.reduceEqDiff, Nat.reduceLT, ↓reduceIte, Nat.reduceAdd, Nat.reduceMul, Nat.reduceLeDiff, Nat.reduceSub, Nat.reduceBEq, Int.reduceEq, Int.reduceLT, Int.reduceLE, Int.reduceToNat, Int.reduceAdd, Int.reduceSub, Int.reduceNeg, UInt8.reduceToNat]
    refine loopT_e E (X := { i : Nat // i ≤ n.l.length }) (fun x => [(3, .vw [99] 0 x.1), (18, .d (.sl (some 2) (n.l.map fldD))), (19, .d (i64 n.l.length)), (20, .d (i64 x.1))]) (fun x => [([99], .arr none ((n.l.take x.1).map fun f => i64 f.2))]) [99] (fun x => n.l.length - x.1) ⟨0, Nat.zero_le _⟩ id ?_ ?_
    · simp only [go_sem, Nat.reduceEqDiff, Nat.reduceLT, ↓reduceIte, Nat.reduceAdd, Nat.reduceMul, Nat.reduceLeDiff, Nat.reduceSub, Nat.reduceBEq, Int.reduceEq, Int.reduceLT, Int.reduceLE, Int.reduceToNat, Int.reduceAdd, Int.reduceSub, Int.reduceNeg, UInt8.reduceToNat]
      all_goals rfl
    rintro ⟨i, hi⟩ E'
    simp only [go_sem, Nat.reduceEqDiff, Nat.reduceLT, ↓reduceIte, Nat.reduceAdd, Nat.reduceMul, Nat.reduceLeDiff, Nat.reduceSub, Nat.reduceBEq, Int.reduceEq, Int.reduceLT, Int.reduceLE, Int.reduceToNat, Int.reduceAdd, Int.reduceSub, Int.reduceNeg, UInt8.reduceToNat]
    refine e_ifd E' (fun h1 => ?_) (fun h1 => ?_) <;> simp only [go_sem, Nat.reduceEqDiff, Nat.reduceLT, ↓reduceIte, Nat.reduceAdd, Nat.reduceMul, Nat.reduceLeDiff, Nat.reduceSub, Nat.reduceBEq, Int.reduceEq, Int.reduceLT, Int.reduceLE, Int.reduceToNat, Int.reduceAdd, Int.reduceSub, Int.reduceNeg, UInt8.reduceToNat]
    · have h1' : i < n.l.length := by omega
      have hx : (n.l.map fldD).getD i .nilp = .agg [.str n.l[i].1, i64 n.l[i].2] := by simp [h1', fldD]
      refine ⟨⟨by omega, by omega⟩, ?_⟩
      rw [hx]
      simp only [go_sem, Nat.reduceEqDiff, Nat.reduceLT, ↓reduceIte, Nat.reduceAdd, Nat.reduceMul, Nat.reduceLeDiff, Nat.reduceSub, Nat.reduceBEq, Int.reduceEq, Int.reduceLT, Int.reduceLE, Int.reduceToNat, Int.reduceAdd, Int.reduceSub, Int.reduceNeg, UInt8.reduceToNat]
      refine ⟨?_, ⟨i + 1, by omega⟩, by show n.l.length - (i + 1) < _; omega, tau [([99], [28])], ?_⟩
      · trace_state
        omega
      simp only [go_sem, Nat.reduceEqDiff, Nat.reduceLT, ↓reduceIte, Nat.reduceAdd, Nat.reduceMul, Nat.reduceLeDiff, Nat.reduceSub, Nat.reduceBEq, Int.reduceEq, Int.reduceLT, Int.reduceLE, Int.reduceToNat, Int.reduceAdd, Int.reduceSub, Int.reduceNeg, UInt8.reduceToNat]
      trace_state
      refine ⟨by rw [w64_in ⟨by omega, by omega⟩]; rfl, ?_⟩
      rw [List.take_of_length_le (by simp; omega), ← kids_app h1']
    · refine ⟨[([99], none, (n.l.take i).map fun f => i64 f.2)], ?_⟩
      simp only [go_sem, Nat.reduceEqDiff, Nat.reduceLT, ↓reduceIte, Nat.reduceAdd, Nat.reduceMul, Nat.reduceLeDiff, Nat.reduceSub, Nat.reduceBEq, Int.reduceEq, Int.reduceLT, Int.reduceLE, Int.reduceToNat, Int.reduceAdd, Int.reduceSub, Int.reduceNeg, UInt8.reduceToNat]
      refine ⟨_, rfl, ?_⟩
      have : i = n.l.length := by omega
      subst this
      simp only [intsD, kidsL, hp, hw, if_true, Bool.false_eq_true, if_false, List.map_map, List.take_length]
      rw [List.take_of_length_le (by simp)]
      exact .refl _
  · refine ⟨[], ?_⟩
    simp only [go_sem, Nat.reduceEqDiff, Nat.reduceLT, ↓reduceIte, Nat.reduceAdd, Nat.reduceMul, Nat.reduceLeDiff, Nat.reduceSub, Nat.reduceBEq, Int.reduceEq, Int.reduceLT, Int.reduceLE, Int.reduceToNat, Int.reduceAdd, Int.reduceSub, Int.reduceNeg, UInt8.reduceToNat]
    refine ⟨_, rfl, ?_⟩
    simp only [intsD, kidsL, hp, hw, Bool.false_eq_true, if_false, List.map_nil]
    exact .nils _
end Go.Proofs.YtjoneaifakonjaaDoor
