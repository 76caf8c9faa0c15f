/-
  Types as data; a type of not too many nodes.
-/
import Derived.Test.YtjoneaifakonjaaDoorH6
import Derived.Test.YtjoneaifakonjaaDoorN3
set_option linter.all false
namespace Go.Proofs.YtjoneaifakonjaaDoor
open Go.Ab
abbrev Fld := List UInt8 × Int
structure TN where
  k : Int
  a : Int
  b : Int
  l : List Fld
def fldD (f : Fld) : D := .agg [.str f.1, i64 f.2]
def fldsD (l : List Fld) : D := .sl (some 2) (l.map fldD)
def nodeD (n : TN) : D := .agg [i64 n.k, i64 n.a, i64 n.b, fldsD n.l]
def nodesD : List TN → D
  | [] => .nils
  | n :: r => .sl (some 4) ((n :: r).map nodeD)
def typeD (ns : List TN) (root : Int) : D := .agg [nodesD ns, i64 root]
/-- Parts as they came in. -/
def RawF (F : D) (l : List Fld) : Prop := (F = .nils ∧ l = []) ∨ F = fldsD l
def RawN (x : D) (n : TN) : Prop := ∃ F, x = .agg [i64 n.k, i64 n.a, i64 n.b, F] ∧ RawF F n.l
def RawL : List D → List TN → Prop
  | [], [] => True
  | x :: xs, n :: ns => RawN x n ∧ RawL xs ns
  | _, _ => False
def RawT (L : D) (ns : List TN) : Prop := (L = .nils ∧ ns = []) ∨ ∃ xs, L = .sl (some 4) xs ∧ RawL xs ns
theorem RawL.len : ∀ {xs : List D} {ns : List TN}, RawL xs ns → xs.length = ns.length
  | [], [], _ => rfl
  | _ :: _, _ :: _, h => by simp [RawL.len h.2]
  | [], _ :: _, h => h.elim
  | _ :: _, [], h => h.elim
theorem RawL.get : ∀ {xs : List D} {ns : List TN}, RawL xs ns → ∀ (i : Nat) (h : i < ns.length), RawN (xs.getD i .nilp) ns[i]
  | [], [], _, i, h => by simp at h
  | _ :: _, _ :: _, h, 0, _ => h.1
  | x :: xs, n :: ns, h, i + 1, hi => by
    have := RawL.get h.2 i (by simpa using hi)
    simpa using this
  | [], _ :: _, h, _, _ => h.elim
  | _ :: _, [], h, _, _ => h.elim
def cut40 (n : TN) : TN := { n with l := n.l.take 40 }
def fewN (len most : Nat) : Nat := if 2000 < len then min len (max most 2001) else min len most
def fewL (ns : List TN) (most : Nat) : List TN := (ns.take (fewN ns.length most)).map cut40
/-- What stands there in the loop. -/
def fewO (ns : List TN) (root : Int) : Nat → List (Name × Ob)
  | 0 => [([4], .box [.d .nils, .d (i64 0)]), ([5], .box [.d .nils, .d (i64 root)])]
  | i + 1 => [([4], .box [.d .nils, .d (i64 0)]), ([5], .box [.vw [99] 0 (i + 1), .d (i64 root)]), ([99], .arr (some 4) ((ns.take (i + 1)).map fun n => nodeD (cut40 n)))]
theorem fewN_lt {i len most : Nat} : i < fewN len most ↔ i < len ∧ (i < most ∨ (2000 < len ∧ i ≤ 2000)) := by
  unfold fewN
  split <;> omega
theorem few_app {ns : List TN} {i : Nat} (h : i < ns.length) : (List.map (fun n => nodeD (cut40 n)) (List.take i ns)) ++ [nodeD (cut40 ns[i])] = List.map (fun n => nodeD (cut40 n)) (List.take (i + 1) ns) := by
  rw [List.take_succ_eq_append_getElem h, List.map_append]
  rfl
theorem few_end {ns : List TN} {i most : Nat} (h1 : i ≤ fewN ns.length most) (h2 : ¬ i < fewN ns.length most) : (ns.take i).map cut40 = fewL ns most := by
  unfold fewL
  rw [show i = fewN ns.length most by omega]
theorem nodes_succ {ns : List TN} {i : Nat} (h : i < ns.length) : nodesD ((ns.take (i + 1)).map cut40) = .sl (some 4) ((ns.take (i + 1)).map fun n => nodeD (cut40 n)) := by
  cases ns with
  | nil => simp at h
  | cons n r => simp [nodesD, Function.comp_def]
theorem f5_sl {G} (xs : List D) (ns : List TN) (root : Int) (most : Nat) (hr : RawL xs ns) (hn : ns.length ≤ 9223372036854775807) (hm : most ≤ 1000) : HP Tryd.prog G 5 [.agg [.sl (some 4) xs, i64 root], i64 most] (fun r => r = .d (typeD (fewL ns most) root)) := by
  refine funZ_ok Tryd.func5 rfl (by decide +kernel) (by simp [Tryd.ntmps5]) (veil fun E => ?_)
  simp only [go_sem, Nat.reduceEqDiff, Nat.reduceLT, ↓reduceIte, Nat.reduceAdd, Nat.reduceMul, Nat.reduceLeDiff, Nat.reduceSub, Nat.reduceBEq, Int.reduceEq, Int.reduceLT, Int.reduceLE, Int.reduceToNat, Int.reduceAdd, Int.reduceSub, Int.reduceNeg, UInt8.reduceToNat]
  refine c_frB E [2] (.agg [.sl (some 4) xs, i64 root]) rfl rfl ?_
  simp only [go_sem, Nat.reduceEqDiff, Nat.reduceLT, ↓reduceIte, Nat.reduceAdd, Nat.reduceMul, Nat.reduceLeDiff, Nat.reduceSub, Nat.reduceBEq, Int.reduceEq, Int.reduceLT, Int.reduceLE, Int.reduceToNat, Int.reduceAdd, Int.reduceSub, Int.reduceNeg, UInt8.reduceToNat]
  refine loopT_e E (X := { i : Nat // i ≤ fewN ns.length most }) (fun x => [(1, .d (i64 most)), (2, .d (.ptr (.agg [.sl (some 4) xs, i64 root]))), (4, .bx [4] 0), (5, .bx [5] 0), (6, .d (i64 x.1))]) (fun x => fewO ns root x.1) [4, 5, 99] (fun x => fewN ns.length most - x.1) ⟨0, Nat.zero_le _⟩ id ?_ ?_
  · simp only [fewO]
    simp only [go_sem, Nat.reduceEqDiff, Nat.reduceLT, ↓reduceIte, Nat.reduceAdd, Nat.reduceMul, Nat.reduceLeDiff, Nat.reduceSub, Nat.reduceBEq, Int.reduceEq, Int.reduceLT, Int.reduceLE, Int.reduceToNat, Int.reduceAdd, Int.reduceSub, Int.reduceNeg, UInt8.reduceToNat]
    all_goals rfl
  rintro ⟨i, hi⟩ E'
  have hlt := fewN_lt (i := i) (len := ns.length) (most := most)
  have hlen := hr.len
  cases i with
  | zero =>
    simp only [fewO]
    simp only [go_sem, Nat.reduceEqDiff, Nat.reduceLT, ↓reduceIte, Nat.reduceAdd, Nat.reduceMul, Nat.reduceLeDiff, Nat.reduceSub, Nat.reduceBEq, Int.reduceEq, Int.reduceLT, Int.reduceLE, Int.reduceToNat, Int.reduceAdd, Int.reduceSub, Int.reduceNeg, UInt8.reduceToNat]
    refine e_gifd E' (fun h1 => ?_) (fun h1 => ?_) <;> simp only [go_sem, Nat.reduceEqDiff, Nat.reduceLT, ↓reduceIte, Nat.reduceAdd, Nat.reduceMul, Nat.reduceLeDiff, Nat.reduceSub, Nat.reduceBEq, Int.reduceEq, Int.reduceLT, Int.reduceLE, Int.reduceToNat, Int.reduceAdd, Int.reduceSub, Int.reduceNeg, UInt8.reduceToNat]
    · refine e_gifd E' (fun h2 => ?_) (fun h2 => ?_) <;> simp only [go_sem, Nat.reduceEqDiff, Nat.reduceLT, ↓reduceIte, Nat.reduceAdd, Nat.reduceMul, Nat.reduceLeDiff, Nat.reduceSub, Nat.reduceBEq, Int.reduceEq, Int.reduceLT, Int.reduceLE, Int.reduceToNat, Int.reduceAdd, Int.reduceSub, Int.reduceNeg, UInt8.reduceToNat]
      · have hil : 0 < ns.length := by omega
        refine ⟨by omega, ?_⟩
        obtain ⟨F, hx, hF⟩ := hr.get (0) hil
        rw [hx]
        simp only [go_sem, Nat.reduceEqDiff, Nat.reduceLT, ↓reduceIte, Nat.reduceAdd, Nat.reduceMul, Nat.reduceLeDiff, Nat.reduceSub, Nat.reduceBEq, Int.reduceEq, Int.reduceLT, Int.reduceLE, Int.reduceToNat, Int.reduceAdd, Int.reduceSub, Int.reduceNeg, UInt8.reduceToNat]
        have hap := few_app hil
        simp only [Nat.zero_add] at hap
        rcases hF with ⟨rfl, hF⟩ | rfl
        · have hc : cut40 ns[0] = { k := ns[0].k, a := ns[0].a, b := ns[0].b, l := [] } := by simp [cut40, hF]
          simp only [go_sem, Nat.reduceEqDiff, Nat.reduceLT, ↓reduceIte, Nat.reduceAdd, Nat.reduceMul, Nat.reduceLeDiff, Nat.reduceSub, Nat.reduceBEq, Int.reduceEq, Int.reduceLT, Int.reduceLE, Int.reduceToNat, Int.reduceAdd, Int.reduceSub, Int.reduceNeg, UInt8.reduceToNat]
          refine e_frz E' [46] (some 2) [] rfl ?_
          simp only [go_sem, Nat.reduceEqDiff, Nat.reduceLT, ↓reduceIte, Nat.reduceAdd, Nat.reduceMul, Nat.reduceLeDiff, Nat.reduceSub, Nat.reduceBEq, Int.reduceEq, Int.reduceLT, Int.reduceLE, Int.reduceToNat, Int.reduceAdd, Int.reduceSub, Int.reduceNeg, UInt8.reduceToNat]
          refine ⟨⟨1, by omega⟩, by show fewN ns.length most - 1 < _; omega, tau [([99], [52])], ?_⟩
          simp only [fewO]
          simp only [go_sem, Nat.reduceEqDiff, Nat.reduceLT, ↓reduceIte, Nat.reduceAdd, Nat.reduceMul, Nat.reduceLeDiff, Nat.reduceSub, Nat.reduceBEq, Int.reduceEq, Int.reduceLT, Int.reduceLE, Int.reduceToNat, Int.reduceAdd, Int.reduceSub, Int.reduceNeg, UInt8.reduceToNat]
          refine ⟨by rw [w64_in ⟨by omega, by omega⟩], ?_⟩
          rw [← hap, hc]
          rfl
        · have hc : cut40 ns[0] = { k := ns[0].k, a := ns[0].a, b := ns[0].b, l := ns[0].l.take 40 } := rfl
          unfold fldsD
          simp only [go_sem, Nat.reduceEqDiff, Nat.reduceLT, ↓reduceIte, Nat.reduceAdd, Nat.reduceMul, Nat.reduceLeDiff, Nat.reduceSub, Nat.reduceBEq, Int.reduceEq, Int.reduceLT, Int.reduceLE, Int.reduceToNat, Int.reduceAdd, Int.reduceSub, Int.reduceNeg, UInt8.reduceToNat]
          rw [cut_map fldD 40 (by decide)]
          refine ⟨cut_in 40 _ (by decide) (by omega), by simp only [List.length_map, List.length_take]; omega, ?_⟩
          refine e_frz E' [46] (some 2) ((ns[0].l.take 40).map fldD) rfl ?_
          simp only [go_sem, Nat.reduceEqDiff, Nat.reduceLT, ↓reduceIte, Nat.reduceAdd, Nat.reduceMul, Nat.reduceLeDiff, Nat.reduceSub, Nat.reduceBEq, Int.reduceEq, Int.reduceLT, Int.reduceLE, Int.reduceToNat, Int.reduceAdd, Int.reduceSub, Int.reduceNeg, UInt8.reduceToNat]
          refine ⟨⟨1, by omega⟩, by show fewN ns.length most - 1 < _; omega, tau [([99], [52])], ?_⟩
          simp only [fewO]
          simp only [go_sem, Nat.reduceEqDiff, Nat.reduceLT, ↓reduceIte, Nat.reduceAdd, Nat.reduceMul, Nat.reduceLeDiff, Nat.reduceSub, Nat.reduceBEq, Int.reduceEq, Int.reduceLT, Int.reduceLE, Int.reduceToNat, Int.reduceAdd, Int.reduceSub, Int.reduceNeg, UInt8.reduceToNat]
          refine ⟨by rw [w64_in ⟨by omega, by omega⟩], ?_⟩
          rw [← hap, hc]
          rfl
      · refine e_gifd E' (fun h3 => ?_) (fun h3 => ?_) <;> simp only [go_sem, Nat.reduceEqDiff, Nat.reduceLT, ↓reduceIte, Nat.reduceAdd, Nat.reduceMul, Nat.reduceLeDiff, Nat.reduceSub, Nat.reduceBEq, Int.reduceEq, Int.reduceLT, Int.reduceLE, Int.reduceToNat, Int.reduceAdd, Int.reduceSub, Int.reduceNeg, UInt8.reduceToNat]
        · have hil : 0 < ns.length := by omega
          refine ⟨by omega, ?_⟩
          obtain ⟨F, hx, hF⟩ := hr.get (0) hil
          rw [hx]
          simp only [go_sem, Nat.reduceEqDiff, Nat.reduceLT, ↓reduceIte, Nat.reduceAdd, Nat.reduceMul, Nat.reduceLeDiff, Nat.reduceSub, Nat.reduceBEq, Int.reduceEq, Int.reduceLT, Int.reduceLE, Int.reduceToNat, Int.reduceAdd, Int.reduceSub, Int.reduceNeg, UInt8.reduceToNat]
          have hap := few_app hil
          simp only [Nat.zero_add] at hap
          rcases hF with ⟨rfl, hF⟩ | rfl
          · have hc : cut40 ns[0] = { k := ns[0].k, a := ns[0].a, b := ns[0].b, l := [] } := by simp [cut40, hF]
            simp only [go_sem, Nat.reduceEqDiff, Nat.reduceLT, ↓reduceIte, Nat.reduceAdd, Nat.reduceMul, Nat.reduceLeDiff, Nat.reduceSub, Nat.reduceBEq, Int.reduceEq, Int.reduceLT, Int.reduceLE, Int.reduceToNat, Int.reduceAdd, Int.reduceSub, Int.reduceNeg, UInt8.reduceToNat]
            refine e_frz E' [46] (some 2) [] rfl ?_
            simp only [go_sem, Nat.reduceEqDiff, Nat.reduceLT, ↓reduceIte, Nat.reduceAdd, Nat.reduceMul, Nat.reduceLeDiff, Nat.reduceSub, Nat.reduceBEq, Int.reduceEq, Int.reduceLT, Int.reduceLE, Int.reduceToNat, Int.reduceAdd, Int.reduceSub, Int.reduceNeg, UInt8.reduceToNat]
            refine ⟨⟨1, by omega⟩, by show fewN ns.length most - 1 < _; omega, tau [([99], [52])], ?_⟩
            simp only [fewO]
            simp only [go_sem, Nat.reduceEqDiff, Nat.reduceLT, ↓reduceIte, Nat.reduceAdd, Nat.reduceMul, Nat.reduceLeDiff, Nat.reduceSub, Nat.reduceBEq, Int.reduceEq, Int.reduceLT, Int.reduceLE, Int.reduceToNat, Int.reduceAdd, Int.reduceSub, Int.reduceNeg, UInt8.reduceToNat]
            refine ⟨by rw [w64_in ⟨by omega, by omega⟩], ?_⟩
            rw [← hap, hc]
            rfl
          · have hc : cut40 ns[0] = { k := ns[0].k, a := ns[0].a, b := ns[0].b, l := ns[0].l.take 40 } := rfl
            unfold fldsD
            simp only [go_sem, Nat.reduceEqDiff, Nat.reduceLT, ↓reduceIte, Nat.reduceAdd, Nat.reduceMul, Nat.reduceLeDiff, Nat.reduceSub, Nat.reduceBEq, Int.reduceEq, Int.reduceLT, Int.reduceLE, Int.reduceToNat, Int.reduceAdd, Int.reduceSub, Int.reduceNeg, UInt8.reduceToNat]
            rw [cut_map fldD 40 (by decide)]
            refine ⟨cut_in 40 _ (by decide) (by omega), by simp only [List.length_map, List.length_take]; omega, ?_⟩
            refine e_frz E' [46] (some 2) ((ns[0].l.take 40).map fldD) rfl ?_
            simp only [go_sem, Nat.reduceEqDiff, Nat.reduceLT, ↓reduceIte, Nat.reduceAdd, Nat.reduceMul, Nat.reduceLeDiff, Nat.reduceSub, Nat.reduceBEq, Int.reduceEq, Int.reduceLT, Int.reduceLE, Int.reduceToNat, Int.reduceAdd, Int.reduceSub, Int.reduceNeg, UInt8.reduceToNat]
            refine ⟨⟨1, by omega⟩, by show fewN ns.length most - 1 < _; omega, tau [([99], [52])], ?_⟩
            simp only [fewO]
            simp only [go_sem, Nat.reduceEqDiff, Nat.reduceLT, ↓reduceIte, Nat.reduceAdd, Nat.reduceMul, Nat.reduceLeDiff, Nat.reduceSub, Nat.reduceBEq, Int.reduceEq, Int.reduceLT, Int.reduceLE, Int.reduceToNat, Int.reduceAdd, Int.reduceSub, Int.reduceNeg, UInt8.reduceToNat]
            refine ⟨by rw [w64_in ⟨by omega, by omega⟩], ?_⟩
            rw [← hap, hc]
            rfl
        · refine ⟨[], ?_⟩
          simp only [go_sem, Nat.reduceEqDiff, Nat.reduceLT, ↓reduceIte, Nat.reduceAdd, Nat.reduceMul, Nat.reduceLeDiff, Nat.reduceSub, Nat.reduceBEq, Int.reduceEq, Int.reduceLT, Int.reduceLE, Int.reduceToNat, Int.reduceAdd, Int.reduceSub, Int.reduceNeg, UInt8.reduceToNat]
          rw [← few_end hi (by omega)]
          rfl
    · refine ⟨[], ?_⟩
      simp only [go_sem, Nat.reduceEqDiff, Nat.reduceLT, ↓reduceIte, Nat.reduceAdd, Nat.reduceMul, Nat.reduceLeDiff, Nat.reduceSub, Nat.reduceBEq, Int.reduceEq, Int.reduceLT, Int.reduceLE, Int.reduceToNat, Int.reduceAdd, Int.reduceSub, Int.reduceNeg, UInt8.reduceToNat]
      rw [← few_end hi (by omega)]
      rfl
  | succ i =>
    simp only [fewO]
    simp only [go_sem, Nat.reduceEqDiff, Nat.reduceLT, ↓reduceIte, Nat.reduceAdd, Nat.reduceMul, Nat.reduceLeDiff, Nat.reduceSub, Nat.reduceBEq, Int.reduceEq, Int.reduceLT, Int.reduceLE, Int.reduceToNat, Int.reduceAdd, Int.reduceSub, Int.reduceNeg, UInt8.reduceToNat]
    refine e_gifd E' (fun h1 => ?_) (fun h1 => ?_) <;> simp only [go_sem, Nat.reduceEqDiff, Nat.reduceLT, ↓reduceIte, Nat.reduceAdd, Nat.reduceMul, Nat.reduceLeDiff, Nat.reduceSub, Nat.reduceBEq, Int.reduceEq, Int.reduceLT, Int.reduceLE, Int.reduceToNat, Int.reduceAdd, Int.reduceSub, Int.reduceNeg, UInt8.reduceToNat]
    · refine e_gifd E' (fun h2 => ?_) (fun h2 => ?_) <;> simp only [go_sem, Nat.reduceEqDiff, Nat.reduceLT, ↓reduceIte, Nat.reduceAdd, Nat.reduceMul, Nat.reduceLeDiff, Nat.reduceSub, Nat.reduceBEq, Int.reduceEq, Int.reduceLT, Int.reduceLE, Int.reduceToNat, Int.reduceAdd, Int.reduceSub, Int.reduceNeg, UInt8.reduceToNat]
      · have hil : i + 1 < ns.length := by omega
        refine ⟨⟨by omega, by omega⟩, ?_⟩
        obtain ⟨F, hx, hF⟩ := hr.get (i + 1) hil
        rw [hx]
        simp only [go_sem, Nat.reduceEqDiff, Nat.reduceLT, ↓reduceIte, Nat.reduceAdd, Nat.reduceMul, Nat.reduceLeDiff, Nat.reduceSub, Nat.reduceBEq, Int.reduceEq, Int.reduceLT, Int.reduceLE, Int.reduceToNat, Int.reduceAdd, Int.reduceSub, Int.reduceNeg, UInt8.reduceToNat]
        have hap := few_app hil
        rcases hF with ⟨rfl, hF⟩ | rfl
        · have hc : cut40 ns[i + 1] = { k := ns[i + 1].k, a := ns[i + 1].a, b := ns[i + 1].b, l := [] } := by simp [cut40, hF]
          simp only [go_sem, Nat.reduceEqDiff, Nat.reduceLT, ↓reduceIte, Nat.reduceAdd, Nat.reduceMul, Nat.reduceLeDiff, Nat.reduceSub, Nat.reduceBEq, Int.reduceEq, Int.reduceLT, Int.reduceLE, Int.reduceToNat, Int.reduceAdd, Int.reduceSub, Int.reduceNeg, UInt8.reduceToNat]
          refine e_frz E' [46] (some 2) [] rfl ?_
          simp only [go_sem, Nat.reduceEqDiff, Nat.reduceLT, ↓reduceIte, Nat.reduceAdd, Nat.reduceMul, Nat.reduceLeDiff, Nat.reduceSub, Nat.reduceBEq, Int.reduceEq, Int.reduceLT, Int.reduceLE, Int.reduceToNat, Int.reduceAdd, Int.reduceSub, Int.reduceNeg, UInt8.reduceToNat]
          refine ⟨by omega, ⟨i + 1 + 1, by omega⟩, by show fewN ns.length most - (i + 1 + 1) < _; omega, tau [([99], [52])], ?_⟩
          simp only [fewO]
          simp only [go_sem, Nat.reduceEqDiff, Nat.reduceLT, ↓reduceIte, Nat.reduceAdd, Nat.reduceMul, Nat.reduceLeDiff, Nat.reduceSub, Nat.reduceBEq, Int.reduceEq, Int.reduceLT, Int.reduceLE, Int.reduceToNat, Int.reduceAdd, Int.reduceSub, Int.reduceNeg, UInt8.reduceToNat]
          refine ⟨by rw [w64_in ⟨by omega, by omega⟩]; rfl, ?_⟩
          rw [List.take_of_length_le (by simp; omega), ← hap, hc]
          rfl
        · have hc : cut40 ns[i + 1] = { k := ns[i + 1].k, a := ns[i + 1].a, b := ns[i + 1].b, l := ns[i + 1].l.take 40 } := rfl
          unfold fldsD
          simp only [go_sem, Nat.reduceEqDiff, Nat.reduceLT, ↓reduceIte, Nat.reduceAdd, Nat.reduceMul, Nat.reduceLeDiff, Nat.reduceSub, Nat.reduceBEq, Int.reduceEq, Int.reduceLT, Int.reduceLE, Int.reduceToNat, Int.reduceAdd, Int.reduceSub, Int.reduceNeg, UInt8.reduceToNat]
          rw [cut_map fldD 40 (by decide)]
          refine ⟨cut_in 40 _ (by decide) (by omega), by simp only [List.length_map, List.length_take]; omega, ?_⟩
          refine e_frz E' [46] (some 2) ((ns[i + 1].l.take 40).map fldD) rfl ?_
          simp only [go_sem, Nat.reduceEqDiff, Nat.reduceLT, ↓reduceIte, Nat.reduceAdd, Nat.reduceMul, Nat.reduceLeDiff, Nat.reduceSub, Nat.reduceBEq, Int.reduceEq, Int.reduceLT, Int.reduceLE, Int.reduceToNat, Int.reduceAdd, Int.reduceSub, Int.reduceNeg, UInt8.reduceToNat]
          refine ⟨by omega, ⟨i + 1 + 1, by omega⟩, by show fewN ns.length most - (i + 1 + 1) < _; omega, tau [([99], [52])], ?_⟩
          simp only [fewO]
          simp only [go_sem, Nat.reduceEqDiff, Nat.reduceLT, ↓reduceIte, Nat.reduceAdd, Nat.reduceMul, Nat.reduceLeDiff, Nat.reduceSub, Nat.reduceBEq, Int.reduceEq, Int.reduceLT, Int.reduceLE, Int.reduceToNat, Int.reduceAdd, Int.reduceSub, Int.reduceNeg, UInt8.reduceToNat]
          refine ⟨by rw [w64_in ⟨by omega, by omega⟩]; rfl, ?_⟩
          rw [List.take_of_length_le (by simp; omega), ← hap, hc]
          rfl
      · refine e_gifd E' (fun h3 => ?_) (fun h3 => ?_) <;> simp only [go_sem, Nat.reduceEqDiff, Nat.reduceLT, ↓reduceIte, Nat.reduceAdd, Nat.reduceMul, Nat.reduceLeDiff, Nat.reduceSub, Nat.reduceBEq, Int.reduceEq, Int.reduceLT, Int.reduceLE, Int.reduceToNat, Int.reduceAdd, Int.reduceSub, Int.reduceNeg, UInt8.reduceToNat]
        · refine e_ifd E' (fun h4 => ?_) (fun h4 => ?_) <;> simp only [go_sem, Nat.reduceEqDiff, Nat.reduceLT, ↓reduceIte, Nat.reduceAdd, Nat.reduceMul, Nat.reduceLeDiff, Nat.reduceSub, Nat.reduceBEq, Int.reduceEq, Int.reduceLT, Int.reduceLE, Int.reduceToNat, Int.reduceAdd, Int.reduceSub, Int.reduceNeg, UInt8.reduceToNat]
          · have hil : i + 1 < ns.length := by omega
            refine ⟨⟨by omega, by omega⟩, ?_⟩
            obtain ⟨F, hx, hF⟩ := hr.get (i + 1) hil
            rw [hx]
            simp only [go_sem, Nat.reduceEqDiff, Nat.reduceLT, ↓reduceIte, Nat.reduceAdd, Nat.reduceMul, Nat.reduceLeDiff, Nat.reduceSub, Nat.reduceBEq, Int.reduceEq, Int.reduceLT, Int.reduceLE, Int.reduceToNat, Int.reduceAdd, Int.reduceSub, Int.reduceNeg, UInt8.reduceToNat]
            have hap := few_app hil
            rcases hF with ⟨rfl, hF⟩ | rfl
            · have hc : cut40 ns[i + 1] = { k := ns[i + 1].k, a := ns[i + 1].a, b := ns[i + 1].b, l := [] } := by simp [cut40, hF]
              simp only [go_sem, Nat.reduceEqDiff, Nat.reduceLT, ↓reduceIte, Nat.reduceAdd, Nat.reduceMul, Nat.reduceLeDiff, Nat.reduceSub, Nat.reduceBEq, Int.reduceEq, Int.reduceLT, Int.reduceLE, Int.reduceToNat, Int.reduceAdd, Int.reduceSub, Int.reduceNeg, UInt8.reduceToNat]
              refine e_frz E' [46] (some 2) [] rfl ?_
              simp only [go_sem, Nat.reduceEqDiff, Nat.reduceLT, ↓reduceIte, Nat.reduceAdd, Nat.reduceMul, Nat.reduceLeDiff, Nat.reduceSub, Nat.reduceBEq, Int.reduceEq, Int.reduceLT, Int.reduceLE, Int.reduceToNat, Int.reduceAdd, Int.reduceSub, Int.reduceNeg, UInt8.reduceToNat]
              refine ⟨by omega, ⟨i + 1 + 1, by omega⟩, by show fewN ns.length most - (i + 1 + 1) < _; omega, tau [([99], [52])], ?_⟩
              simp only [fewO]
              simp only [go_sem, Nat.reduceEqDiff, Nat.reduceLT, ↓reduceIte, Nat.reduceAdd, Nat.reduceMul, Nat.reduceLeDiff, Nat.reduceSub, Nat.reduceBEq, Int.reduceEq, Int.reduceLT, Int.reduceLE, Int.reduceToNat, Int.reduceAdd, Int.reduceSub, Int.reduceNeg, UInt8.reduceToNat]
              refine ⟨by rw [w64_in ⟨by omega, by omega⟩]; rfl, ?_⟩
              rw [List.take_of_length_le (by simp; omega), ← hap, hc]
              rfl
            · have hc : cut40 ns[i + 1] = { k := ns[i + 1].k, a := ns[i + 1].a, b := ns[i + 1].b, l := ns[i + 1].l.take 40 } := rfl
              unfold fldsD
              simp only [go_sem, Nat.reduceEqDiff, Nat.reduceLT, ↓reduceIte, Nat.reduceAdd, Nat.reduceMul, Nat.reduceLeDiff, Nat.reduceSub, Nat.reduceBEq, Int.reduceEq, Int.reduceLT, Int.reduceLE, Int.reduceToNat, Int.reduceAdd, Int.reduceSub, Int.reduceNeg, UInt8.reduceToNat]
              rw [cut_map fldD 40 (by decide)]
              refine ⟨cut_in 40 _ (by decide) (by omega), by simp only [List.length_map, List.length_take]; omega, ?_⟩
              refine e_frz E' [46] (some 2) ((ns[i + 1].l.take 40).map fldD) rfl ?_
              simp only [go_sem, Nat.reduceEqDiff, Nat.reduceLT, ↓reduceIte, Nat.reduceAdd, Nat.reduceMul, Nat.reduceLeDiff, Nat.reduceSub, Nat.reduceBEq, Int.reduceEq, Int.reduceLT, Int.reduceLE, Int.reduceToNat, Int.reduceAdd, Int.reduceSub, Int.reduceNeg, UInt8.reduceToNat]
              refine ⟨by omega, ⟨i + 1 + 1, by omega⟩, by show fewN ns.length most - (i + 1 + 1) < _; omega, tau [([99], [52])], ?_⟩
              simp only [fewO]
              simp only [go_sem, Nat.reduceEqDiff, Nat.reduceLT, ↓reduceIte, Nat.reduceAdd, Nat.reduceMul, Nat.reduceLeDiff, Nat.reduceSub, Nat.reduceBEq, Int.reduceEq, Int.reduceLT, Int.reduceLE, Int.reduceToNat, Int.reduceAdd, Int.reduceSub, Int.reduceNeg, UInt8.reduceToNat]
              refine ⟨by rw [w64_in ⟨by omega, by omega⟩]; rfl, ?_⟩
              rw [List.take_of_length_le (by simp; omega), ← hap, hc]
              rfl
          · refine ⟨[([99], some 4, (ns.take (i + 1)).map fun n => nodeD (cut40 n))], ?_⟩
            simp only [go_sem, Nat.reduceEqDiff, Nat.reduceLT, ↓reduceIte, Nat.reduceAdd, Nat.reduceMul, Nat.reduceLeDiff, Nat.reduceSub, Nat.reduceBEq, Int.reduceEq, Int.reduceLT, Int.reduceLE, Int.reduceToNat, Int.reduceAdd, Int.reduceSub, Int.reduceNeg, UInt8.reduceToNat]
            rw [← few_end hi (by omega)]
            have hil : i < ns.length := by unfold fewN at hi; split at hi <;> omega
            rw [typeD, nodes_succ hil, List.take_of_length_le (by simp; omega)]
        · refine ⟨[([99], some 4, (ns.take (i + 1)).map fun n => nodeD (cut40 n))], ?_⟩
          simp only [go_sem, Nat.reduceEqDiff, Nat.reduceLT, ↓reduceIte, Nat.reduceAdd, Nat.reduceMul, Nat.reduceLeDiff, Nat.reduceSub, Nat.reduceBEq, Int.reduceEq, Int.reduceLT, Int.reduceLE, Int.reduceToNat, Int.reduceAdd, Int.reduceSub, Int.reduceNeg, UInt8.reduceToNat]
          rw [← few_end hi (by omega)]
          have hil : i < ns.length := by unfold fewN at hi; split at hi <;> omega
          rw [typeD, nodes_succ hil, List.take_of_length_le (by simp; omega)]
    · refine ⟨[([99], some 4, (ns.take (i + 1)).map fun n => nodeD (cut40 n))], ?_⟩
      simp only [go_sem, Nat.reduceEqDiff, Nat.reduceLT, ↓reduceIte, Nat.reduceAdd, Nat.reduceMul, Nat.reduceLeDiff, Nat.reduceSub, Nat.reduceBEq, Int.reduceEq, Int.reduceLT, Int.reduceLE, Int.reduceToNat, Int.reduceAdd, Int.reduceSub, Int.reduceNeg, UInt8.reduceToNat]
      rw [← few_end hi (by omega)]
      have hil : i < ns.length := by unfold fewN at hi; split at hi <;> omega
      rw [typeD, nodes_succ hil, List.take_of_length_le (by simp; omega)]
end Go.Proofs.YtjoneaifakonjaaDoor
