/-
  Names: lists of texts; keywords; names and tags: both answers.
-/
import Derived.Test.YtjoneaifakonjaaDoorN1
set_option linter.all false
namespace Go.Proofs.YtjoneaifakonjaaDoor
open Go.Ab
variable {t : TypeId} {fz : Nat × Nat}
theorem mixed : Tryd.prog.follows .mixedOrders = true := by kernel_rfl
def kwB : List (List UInt8) := [[102, 117, 110], [108, 101, 116], [114, 101, 99], [105, 110], [105, 102], [116, 104, 101, 110], [101, 108, 115, 101], [99, 97, 115, 101], [111, 102], [101, 110, 100], [116, 114, 117, 101], [102, 97, 108, 115, 101], [99, 104, 101, 99, 107], [97, 115, 107], [116, 111, 112], [98, 111, 116], [105, 110, 116], [98, 111, 111, 108], [115, 116, 114, 105, 110, 103], [109, 117]]
def strs (l : List (List UInt8)) : D := .sl none (l.map .str)
theorem f51_ok {G} : HP Tryd.prog G 51 [] (fun r => r = .d (strs kwB)) := by
  refine funZ_ok Tryd.func51 rfl (by decide +kernel) (by simp [Tryd.ntmps51]) (veil fun E => ?_)
  simp only [go_sem, Nat.reduceEqDiff, Nat.reduceLT, ↓reduceIte, Nat.reduceAdd, Nat.reduceMul, Nat.reduceLeDiff, Nat.reduceSub, Nat.reduceBEq, Int.reduceEq, Int.reduceLT, Int.reduceLE, Int.reduceToNat, Int.reduceAdd, Int.reduceSub, Int.reduceNeg, UInt8.reduceToNat]
  refine ⟨[([1], none, kwB.map .str)], ?_⟩
  simp only [go_sem, Nat.reduceEqDiff, Nat.reduceLT, ↓reduceIte, Nat.reduceAdd, Nat.reduceMul, Nat.reduceLeDiff, Nat.reduceSub, Nat.reduceBEq, Int.reduceEq, Int.reduceLT, Int.reduceLE, Int.reduceToNat, Int.reduceAdd, Int.reduceSub, Int.reduceNeg, UInt8.reduceToNat]
  refine ⟨rfl, ?_⟩
  rfl
theorem strs_get {l : List (List UInt8)} {i : Nat} (h : i < l.length) : (l.map D.str).getD i .nilp = .str (l.getD i []) := by
  simp [h]
theorem take_mem {l : List (List UInt8)} {i : Nat} {s : List UInt8} (hi : i < l.length) (h : s ∉ l.take i) (h2 : l.getD i [] ≠ s) : s ∉ l.take (i + 1) := by
  rw [List.take_succ_eq_append_getElem hi]
  simp only [List.mem_append, List.mem_singleton, not_or]
  refine ⟨h, fun e => h2 ?_⟩
  simp [hi, e]
theorem f57_ok {G} (l : List (List UInt8)) (s : List UInt8) (hl : l.length ≤ 9223372036854775807) : HP Tryd.prog G 57 [strs l, .str s] (fun r => ∃ n, r = .d (i64 n) ∧ (0 ≤ n ↔ s ∈ l)) := by
  refine funP_ok Tryd.func57 rfl (by decide +kernel) (by simp [Tryd.ntmps57]) (veil fun E => ?_)
  unfold strs
  simp only [go_sem, Nat.reduceEqDiff, Nat.reduceLT, ↓reduceIte, Nat.reduceAdd, Nat.reduceMul, Nat.reduceLeDiff, Nat.reduceSub, Nat.reduceBEq, Int.reduceEq, Int.reduceLT, Int.reduceLE, Int.reduceToNat, Int.reduceAdd, Int.reduceSub, Int.reduceNeg, UInt8.reduceToNat]
  refine loopP_e E (X := { i : Nat // i ≤ l.length ∧ s ∉ l.take i }) (fun x => [(0, .d (.sl none (l.map .str))), (1, .d (.str s)), (7, .d (i64 l.length)), (8, .d (i64 x.1))]) (fun x => l.length - x.1) rfl ⟨0, by simp, by simp⟩ ?_ ?_
  · simp only [go_sem, Nat.reduceEqDiff, Nat.reduceLT, ↓reduceIte, Nat.reduceAdd, Nat.reduceMul, Nat.reduceLeDiff, Nat.reduceSub, Nat.reduceBEq, Int.reduceEq, Int.reduceLT, Int.reduceLE, Int.reduceToNat, Int.reduceAdd, Int.reduceSub, Int.reduceNeg, UInt8.reduceToNat]
    all_goals rfl
  rintro ⟨i, hi, hm⟩ E'
  simp only [go_sem, Nat.reduceEqDiff, Nat.reduceLT, ↓reduceIte, Nat.reduceAdd, Nat.reduceMul, Nat.reduceLeDiff, Nat.reduceSub, Nat.reduceBEq, Int.reduceEq, Int.reduceLT, Int.reduceLE, Int.reduceToNat, Int.reduceAdd, Int.reduceSub, Int.reduceNeg, UInt8.reduceToNat]
  refine e_ifd E' (fun h6 => ?_) (fun h6 => ?_) <;> simp only [go_sem, Nat.reduceEqDiff, Nat.reduceLT, ↓reduceIte, Nat.reduceAdd, Nat.reduceMul, Nat.reduceLeDiff, Nat.reduceSub, Nat.reduceBEq, Int.reduceEq, Int.reduceLT, Int.reduceLE, Int.reduceToNat, Int.reduceAdd, Int.reduceSub, Int.reduceNeg, UInt8.reduceToNat]
  · have hi' : i < l.length := by omega
    refine ⟨⟨by omega, by omega⟩, ?_⟩
    rw [strs_get hi']
    simp only [go_sem, Nat.reduceEqDiff, Nat.reduceLT, ↓reduceIte, Nat.reduceAdd, Nat.reduceMul, Nat.reduceLeDiff, Nat.reduceSub, Nat.reduceBEq, Int.reduceEq, Int.reduceLT, Int.reduceLE, Int.reduceToNat, Int.reduceAdd, Int.reduceSub, Int.reduceNeg, UInt8.reduceToNat]
    refine e_if E' (fun h7 => ?_) (fun h7 => ?_) <;> simp only [go_sem, Nat.reduceEqDiff, Nat.reduceLT, ↓reduceIte, Nat.reduceAdd, Nat.reduceMul, Nat.reduceLeDiff, Nat.reduceSub, Nat.reduceBEq, Int.reduceEq, Int.reduceLT, Int.reduceLE, Int.reduceToNat, Int.reduceAdd, Int.reduceSub, Int.reduceNeg, UInt8.reduceToNat]
    · have h7 : s = l.getD i [] := by simpa using h7
      have : s ∈ l := by
        rw [h7]
        simp [hi']
      exact ⟨_, rfl, fun _ => this, fun _ => by omega⟩
    · have h7 : l.getD i [] ≠ s := by
        intro e
        rw [e] at h7
        simp at h7
      refine ⟨⟨i + 1, by omega, take_mem hi' hm h7⟩, by show l.length - (i + 1) < _; omega, ?_⟩
      rw [w64_in ⟨by omega, by omega⟩]; rfl
  · have hil : i = l.length := by omega
    subst hil
    rw [List.take_length] at hm
    exact ⟨-1, rfl, fun h => absurd h (by decide), fun h => absurd h hm⟩
theorem f50_ok {G} (l : List (List UInt8)) (s : List UInt8) (hl : l.length ≤ 9223372036854775807) : HP Tryd.prog G 50 [strs l, .str s] (fun r => r = .d (.bool (decide (s ∈ l)))) := by
  refine funP_ok Tryd.func50 rfl (by decide +kernel) (by simp [Tryd.ntmps50]) (veil fun E => ?_)
  simp only [go_sem, Nat.reduceEqDiff, Nat.reduceLT, ↓reduceIte, Nat.reduceAdd, Nat.reduceMul, Nat.reduceLeDiff, Nat.reduceSub, Nat.reduceBEq, Int.reduceEq, Int.reduceLT, Int.reduceLE, Int.reduceToNat, Int.reduceAdd, Int.reduceSub, Int.reduceNeg, UInt8.reduceToNat]
  refine e_call E (f57_ok l s hl) rfl rfl (by simp) ?_
  rintro _ ⟨n, rfl, hn⟩
  simp only [go_sem, Nat.reduceEqDiff, Nat.reduceLT, ↓reduceIte, Nat.reduceAdd, Nat.reduceMul, Nat.reduceLeDiff, Nat.reduceSub, Nat.reduceBEq, Int.reduceEq, Int.reduceLT, Int.reduceLE, Int.reduceToNat, Int.reduceAdd, Int.reduceSub, Int.reduceNeg, UInt8.reduceToNat]
  have : decide (0 ≤ n) = decide (s ∈ l) := by rw [Bool.eq_iff_iff]; simpa using hn
  rw [this]
def isKw (s : List UInt8) : Bool := decide (s ∈ kwB)
theorem kwLen : kwB.length ≤ 9223372036854775807 := by decide
theorem f46_ok {G} (s : List UInt8) : HP Tryd.prog G 46 [.str s] (fun r => r = .d (.bool (isKw s))) := by
  refine funP_ok Tryd.func46 rfl (by decide +kernel) (by simp [Tryd.ntmps46]) (veil fun E => ?_)
  simp only [go_sem, Nat.reduceEqDiff, Nat.reduceLT, ↓reduceIte, Nat.reduceAdd, Nat.reduceMul, Nat.reduceLeDiff, Nat.reduceSub, Nat.reduceBEq, Int.reduceEq, Int.reduceLT, Int.reduceLE, Int.reduceToNat, Int.reduceAdd, Int.reduceSub, Int.reduceNeg, UInt8.reduceToNat]
  refine e_call E f51_ok rfl rfl (by simp) ?_
  rintro _ rfl
  simp only [go_sem, Nat.reduceEqDiff, Nat.reduceLT, ↓reduceIte, Nat.reduceAdd, Nat.reduceMul, Nat.reduceLeDiff, Nat.reduceSub, Nat.reduceBEq, Int.reduceEq, Int.reduceLT, Int.reduceLE, Int.reduceToNat, Int.reduceAdd, Int.reduceSub, Int.reduceNeg, UInt8.reduceToNat]
  refine e_call E (f50_ok kwB s kwLen) rfl rfl (by simp) ?_
  rintro _ rfl
  simp only [go_sem, Nat.reduceEqDiff, Nat.reduceLT, ↓reduceIte, Nat.reduceAdd, Nat.reduceMul, Nat.reduceLeDiff, Nat.reduceSub, Nat.reduceBEq, Int.reduceEq, Int.reduceLT, Int.reduceLE, Int.reduceToNat, Int.reduceAdd, Int.reduceSub, Int.reduceNeg, UInt8.reduceToNat]
  rfl
def wholeB (s : List UInt8) : Bool := !s.isEmpty && decide (s.length ≤ 20) && decide (wordN s = s.length)
def nameB (s : List UInt8) : Bool := wholeB s && sm (s.getD 0 0) && !isKw s
def tagB (s : List UInt8) : Bool := wholeB s && gr (s.getD 0 0)
theorem i64_nat (a b : Nat) : decide (((a : Nat) : Int) = ((b : Nat) : Int)) = decide (a = b) := by rw [Bool.eq_iff_iff]; simp; omega
end Go.Proofs.YtjoneaifakonjaaDoor
