/-
  Each node's sides; whether a type is polar: the program's answers.
-/
import Derived.Test.YtmplpdjddjiioaaX3
set_option linter.all false
namespace Go.Proofs.Ytmplpdjddjiioaa
open Go.Ab
/-- On which sides a node stands. -/
def sd (l : List Spot) (i : Nat) : Int := (if ((i : Int), (1 : Int)) ∈ l then 1 else 0) + (if ((i : Int), (2 : Int)) ∈ l then 2 else 0)
def sdL (N : Nat) (l : List Spot) : List Int := (List.range N).map (sd l)
theorem sdL_len (N : Nat) (l : List Spot) : (sdL N l).length = N := by simp [sdL]
theorem sdL_get {N : Nat} {l : List Spot} {i : Nat} (h : i < N) : (sdL N l).getD i 0 = sd l i := by simp [sdL, h]
theorem sdL_get' {N : Nat} {l : List Spot} {i : Nat} (h : i < N) : ((sdL N l).map i64).getD i .nilp = i64 (sd l i) := by simp [sdL, h]
theorem or_tab : ∀ (p q r : Bool), bitI .or .i64 ((if p then 1 else 0) + (if q then 2 else 0)) (if r then 1 else 2) = (if p || r then 1 else 0) + (if q || !r then 2 else 0) := by decide
theorem sd_cons {l : List Spot} {k : Nat} (h : k < l.length) {i : Nat} {side : Int} (hk : l[k] = ((i : Int), side)) (hs : side = 1 ∨ side = 2) : bitI .or .i64 (sd (l.take k) i) side = sd (l.take (k + 1)) i := by
  have e : ∀ x : Spot, x ∈ l.take (k + 1) ↔ x ∈ l.take k ∨ x = ((i : Int), side) := fun x => by rw [List.take_succ_eq_append_getElem h, List.mem_append, List.mem_singleton, hk]
  have h1 := or_tab (decide (((i : Int), (1 : Int)) ∈ l.take k)) (decide (((i : Int), (2 : Int)) ∈ l.take k)) (decide (side = 1))
  simp only [sd, e]
  rcases hs with rfl | rfl
  · simpa using h1
  · simpa using h1
theorem sd_other {l : List Spot} {k : Nat} (h : k < l.length) {i : Nat} (hk : l[k].1 ≠ (i : Int)) : sd (l.take k) i = sd (l.take (k + 1)) i := by
  have e : ∀ s : Int, ((i : Int), s) ∈ l.take (k + 1) ↔ ((i : Int), s) ∈ l.take k := fun s => by
    rw [List.take_succ_eq_append_getElem h, List.mem_append, List.mem_singleton]
    refine ⟨fun h => h.resolve_right fun e => hk (by rw [← e]), .inl⟩
  simp only [sd, e]
theorem sdL_step {N : Nat} {l : List Spot} {k : Nat} (h : k < l.length) {i : Nat} {side : Int} (hk : l[k] = ((i : Int), side)) (hs : side = 1 ∨ side = 2) (_hi : i < N) :
    (sdL N (l.take k)).set i (bitI .or .i64 (sd (l.take k) i) side) = sdL N (l.take (k + 1)) := by
  rw [sd_cons h hk hs]
  refine List.ext_getElem (by simp [sdL]) fun q h1 h2 => ?_
  have hq : q < N := by simpa [sdL] using h2
  simp only [List.getElem_set]
  by_cases e : i = q
  · subst e
    simp [sdL]
  · rw [if_neg e]
    have := sd_other h (i := q) (by rw [hk]; intro h; simp only at h; omega)
    simpa [sdL] using this
theorem sdL_zero (N : Nat) (l : List Spot) : sdL N (l.take 0) = List.replicate N 0 := by
  refine List.ext_getElem (by simp [sdL]) fun q h1 h2 => ?_
  simp [sdL, sd]
/-- What goes through a type finds. -/
def Spots (ns : List TN) (root : Int) (l : List Spot) : Prop := Dfs (kidsS ns) [] [(root, 1)] l ∧ (∀ s ∈ l, okS ns s) ∧ l.length ≤ 2 * ns.length
theorem f27_ok {G} (ns : List TN) (root : Int) (hN : ns.length ≤ 2000) (hfl : ∀ n ∈ ns, n.l.length ≤ 1000000) (hk : KidIn ns) (hr : 0 ≤ root ∧ root < ns.length) :
    HP Try.prog G 27 [typeS ns root] (fun r => ∃ l, r = .d (intsD (sdL ns.length l)) ∧ Spots ns root l) := by
  refine funZ_ok Try.func27 rfl (by decide +kernel) (by simp [Try.ntmps27]) (veil fun E => ?_)
  unfold typeS
  simp only [go_sem, Nat.reduceEqDiff, Nat.reduceLT, ↓reduceIte, Nat.reduceAdd, Nat.reduceMul, Nat.reduceLeDiff, Nat.reduceSub, Nat.reduceBEq, Int.reduceEq, Int.reduceLT, Int.reduceLE, Int.reduceToNat, Int.reduceAdd, Int.reduceSub, Int.reduceNeg, UInt8.reduceToNat]
  refine ⟨⟨by omega, by omega, by omega, by omega⟩, ?_⟩
  refine e_call E (f21_ok ns root hN hfl hk hr) rfl rfl (by simp) ?_
  rintro _ ⟨l, rfl, hl⟩
  simp only [go_sem, Nat.reduceEqDiff, Nat.reduceLT, ↓reduceIte, Nat.reduceAdd, Nat.reduceMul, Nat.reduceLeDiff, Nat.reduceSub, Nat.reduceBEq, Int.reduceEq, Int.reduceLT, Int.reduceLE, Int.reduceToNat, Int.reduceAdd, Int.reduceSub, Int.reduceNeg, UInt8.reduceToNat]
  have hrep : List.replicate ns.length (D.int IntKind.i64 0) = (sdL ns.length (l.take 0)).map i64 := by rw [sdL_zero, List.map_replicate]
  rw [hrep]
  have hlen := hl.2.2
  refine loopO_e E (X := { k : Nat // k ≤ l.length }) (fun x => [(3, .vw [9] 0 ns.length), (11, .d (.sl (some 2) (l.map spotD))), (12, .d (i64 l.length)), (13, .d (i64 x.1))]) (fun x => [([9], .arr none ((sdL ns.length (l.take x.1)).map i64))]) [9] (fun x => l.length - x.1) ⟨0, Nat.zero_le _⟩ ?_ ?_
  · simp only [go_sem, Nat.reduceEqDiff, Nat.reduceLT, ↓reduceIte, Nat.reduceAdd, Nat.reduceMul, Nat.reduceLeDiff, Nat.reduceSub, Nat.reduceBEq, Int.reduceEq, Int.reduceLT, Int.reduceLE, Int.reduceToNat, Int.reduceAdd, Int.reduceSub, Int.reduceNeg, UInt8.reduceToNat]
    all_goals rfl
  rintro ⟨k, hkl⟩ E0
  refine hideQ E0 fun Q' hQ E' => ?_
  simp only at hkl ⊢
  simp only [go_sem, Nat.reduceEqDiff, Nat.reduceLT, ↓reduceIte, Nat.reduceAdd, Nat.reduceMul, Nat.reduceLeDiff, Nat.reduceSub, Nat.reduceBEq, Int.reduceEq, Int.reduceLT, Int.reduceLE, Int.reduceToNat, Int.reduceAdd, Int.reduceSub, Int.reduceNeg, UInt8.reduceToNat]
  refine e_ifd E' (fun h1 => ?_) (fun h1 => ?_) <;> simp only [go_sem, Nat.reduceEqDiff, Nat.reduceLT, ↓reduceIte, Nat.reduceAdd, Nat.reduceMul, Nat.reduceLeDiff, Nat.reduceSub, Nat.reduceBEq, Int.reduceEq, Int.reduceLT, Int.reduceLE, Int.reduceToNat, Int.reduceAdd, Int.reduceSub, Int.reduceNeg, UInt8.reduceToNat]
  · have h1' : k < l.length := by omega
    obtain ⟨⟨i, side⟩, hs⟩ : ∃ s, s = l[k] := ⟨_, rfl⟩
    have hok := hl.2.1 l[k] (List.getElem_mem h1')
    rw [← hs] at hok
    obtain ⟨⟨ho1, ho2⟩, ho3⟩ := hok
    simp only at ho1 ho2 ho3
    obtain ⟨x, rfl⟩ : ∃ x : Nat, i = (x : Int) := ⟨i.toNat, by omega⟩
    have hx : (l.map spotD).getD k .nilp = .agg [i64 x, i64 side] := by simp [h1', spotD, ← hs]
    refine ⟨⟨by omega, by omega⟩, ?_⟩
    rw [hx]
    simp only [go_sem, Nat.reduceEqDiff, Nat.reduceLT, ↓reduceIte, Nat.reduceAdd, Nat.reduceMul, Nat.reduceLeDiff, Nat.reduceSub, Nat.reduceBEq, Int.reduceEq, Int.reduceLT, Int.reduceLE, Int.reduceToNat, Int.reduceAdd, Int.reduceSub, Int.reduceNeg, UInt8.reduceToNat]
    refine region_xv mixed E' fun X => ?_
    simp only [go_sem, Nat.reduceEqDiff, Nat.reduceLT, ↓reduceIte, Nat.reduceAdd, Nat.reduceMul, Nat.reduceLeDiff, Nat.reduceSub, Nat.reduceBEq, Int.reduceEq, Int.reduceLT, Int.reduceLE, Int.reduceToNat, Int.reduceAdd, Int.reduceSub, Int.reduceNeg, UInt8.reduceToNat]
    refine ⟨⟨by omega, by omega⟩, ?_⟩
    rw [sdL_get' (by omega)]
    simp only [go_sem, Nat.reduceEqDiff, Nat.reduceLT, ↓reduceIte, Nat.reduceAdd, Nat.reduceMul, Nat.reduceLeDiff, Nat.reduceSub, Nat.reduceBEq, Int.reduceEq, Int.reduceLT, Int.reduceLE, Int.reduceToNat, Int.reduceAdd, Int.reduceSub, Int.reduceNeg, UInt8.reduceToNat]
    refine ⟨⟨by omega, by omega⟩, by decide +kernel, ?_⟩
    rw [hQ]
    simp only [go_sem, Nat.reduceEqDiff, Nat.reduceLT, ↓reduceIte, Nat.reduceAdd, Nat.reduceMul, Nat.reduceLeDiff, Nat.reduceSub, Nat.reduceBEq, Int.reduceEq, Int.reduceLT, Int.reduceLE, Int.reduceToNat, Int.reduceAdd, Int.reduceSub, Int.reduceNeg, UInt8.reduceToNat]
    refine ⟨⟨k + 1, by omega⟩, by show l.length - (k + 1) < _; omega, by rw [w64_in ⟨by omega, by omega⟩]; rfl, ?_⟩
    have := sdL_step h1' hs.symm ho3 (show x < ns.length by omega)
    rw [← this, List.map_set]
  · rw [hQ]
    simp only [go_sem, Nat.reduceEqDiff, Nat.reduceLT, ↓reduceIte, Nat.reduceAdd, Nat.reduceMul, Nat.reduceLeDiff, Nat.reduceSub, Nat.reduceBEq, Int.reduceEq, Int.reduceLT, Int.reduceLE, Int.reduceToNat, Int.reduceAdd, Int.reduceSub, Int.reduceNeg, UInt8.reduceToNat]
    have : k = l.length := by omega
    subst this
    refine ⟨[([9], none, (sdL ns.length (l.take l.length)).map i64)], ?_⟩
    simp only [go_sem, Nat.reduceEqDiff, Nat.reduceLT, ↓reduceIte, Nat.reduceAdd, Nat.reduceMul, Nat.reduceLeDiff, Nat.reduceSub, Nat.reduceBEq, Int.reduceEq, Int.reduceLT, Int.reduceLE, Int.reduceToNat, Int.reduceAdd, Int.reduceSub, Int.reduceNeg, UInt8.reduceToNat]
    refine ⟨l, ?_, hl⟩
    rw [intsD, List.take_of_length_le (by simp [sdL_len])]
theorem may_ok {ns : List TN} {root : Int} (h : mayZ ns root = 0) : (0 < ns.length ∧ ns.length ≤ 2000) ∧ (0 ≤ root ∧ root < ns.length) ∧ rightsB ns = true ∧ endsB ns = true := by
  unfold mayZ at h
  split at h
  · cases h
  · rename_i h1
    split at h
    · cases h
    · rename_i h2
      split at h
      · cases h
      · rename_i h3
        simp only [Bool.or_eq_true, decide_eq_true_eq, not_or, Bool.not_eq_true', Bool.not_eq_false] at h1 h2 h3
        exact ⟨⟨by omega, by omega⟩, ⟨by omega, by omega⟩, h3.1, h3.2⟩
theorem right_wide {n : TN} {all : Int} (h : rightB n all = true) : n.l.length ≤ 30 := by
  simp only [rightB, Bool.and_eq_true, Bool.not_eq_true', Bool.or_eq_false_iff, Bool.not_eq_false', decide_eq_true_eq] at h
  exact h.1.2.2.2
theorem rights_kids {ns : List TN} (h : rightsB ns = true) : KidIn ns := by
  intro i hi
  have h1 := rights_nd h hi
  refine ⟨right_kids h1, ?_⟩
  have h2 := right_wide h1
  unfold kidsL
  split
  · simp
  · split <;> simp
    omega
theorem f13_ok {G} (ns : List TN) (root : Int) (hs : Sane ns) : HP Try.prog G 13 [typeS ns root] (fun r => (mayZ ns root ≠ 0 ∧ r = .tup [.d .nils, .d (i64 (mayZ ns root))]) ∨ (mayZ ns root = 0 ∧ ∃ l, r = .tup [.d (intsD (sdL ns.length l)), .d (i64 0)] ∧ Spots ns root l)) := by
  refine funP_ok Try.func13 rfl (by decide +kernel) (by simp [Try.ntmps13]) (veil fun E => ?_)
  unfold typeS
  simp only [go_sem, Nat.reduceEqDiff, Nat.reduceLT, ↓reduceIte, Nat.reduceAdd, Nat.reduceMul, Nat.reduceLeDiff, Nat.reduceSub, Nat.reduceBEq, Int.reduceEq, Int.reduceLT, Int.reduceLE, Int.reduceToNat, Int.reduceAdd, Int.reduceSub, Int.reduceNeg, UInt8.reduceToNat]
  refine e_call E (f20_ok ns root hs) rfl rfl (by simp) ?_
  rintro _ rfl
  simp only [go_sem, Nat.reduceEqDiff, Nat.reduceLT, ↓reduceIte, Nat.reduceAdd, Nat.reduceMul, Nat.reduceLeDiff, Nat.reduceSub, Nat.reduceBEq, Int.reduceEq, Int.reduceLT, Int.reduceLE, Int.reduceToNat, Int.reduceAdd, Int.reduceSub, Int.reduceNeg, UInt8.reduceToNat]
  refine e_ifd E (fun h1 => ?_) (fun h1 => ?_) <;> simp only [go_sem, Nat.reduceEqDiff, Nat.reduceLT, ↓reduceIte, Nat.reduceAdd, Nat.reduceMul, Nat.reduceLeDiff, Nat.reduceSub, Nat.reduceBEq, Int.reduceEq, Int.reduceLT, Int.reduceLE, Int.reduceToNat, Int.reduceAdd, Int.reduceSub, Int.reduceNeg, UInt8.reduceToNat]
  · exact .inl h1
  · have h1 : mayZ ns root = 0 := by simpa using h1
    obtain ⟨⟨h2, h3⟩, h4, h5, h6⟩ := may_ok h1
    refine e_call E (f27_ok ns root h3 (fun n hn => (hs.2 n hn).1) (rights_kids h5) h4) rfl rfl (by simp) ?_
    rintro _ ⟨l, rfl, hl⟩
    simp only [go_sem, Nat.reduceEqDiff, Nat.reduceLT, ↓reduceIte, Nat.reduceAdd, Nat.reduceMul, Nat.reduceLeDiff, Nat.reduceSub, Nat.reduceBEq, Int.reduceEq, Int.reduceLT, Int.reduceLE, Int.reduceToNat, Int.reduceAdd, Int.reduceSub, Int.reduceNeg, UInt8.reduceToNat]
    unfold intsD
    exact .inr ⟨h1, l, rfl, hl⟩
def badP (ns : List TN) (l : List Spot) (i : Nat) : Bool := (decide ((nd ns i).k = 9) && decide (((i : Int), (2 : Int)) ∈ l)) || (decide ((nd ns i).k = 10) && decide (((i : Int), (1 : Int)) ∈ l))
def polarB (ns : List TN) (l : List Spot) : Bool := !(List.range ns.length).any (badP ns l)
theorem and_tab : ∀ p q : Bool, decide (¬ bitI .and .i64 ((if p then 1 else 0) + (if q then 2 else 0)) 1 = 0) = p ∧ decide (¬ bitI .and .i64 ((if p then 1 else 0) + (if q then 2 else 0)) 2 = 0) = q := by decide
theorem sd_and1 (l : List Spot) (i : Nat) : decide (¬ bitI .and .i64 (sd l i) 1 = 0) = decide (((i : Int), (1 : Int)) ∈ l) := by
  unfold sd
  by_cases h1 : ((i : Int), (1 : Int)) ∈ l <;> by_cases h2 : ((i : Int), (2 : Int)) ∈ l <;> simp only [h1, h2, if_true, if_false] <;> decide
theorem sd_and2 (l : List Spot) (i : Nat) : decide (¬ bitI .and .i64 (sd l i) 2 = 0) = decide (((i : Int), (2 : Int)) ∈ l) := by
  unfold sd
  by_cases h1 : ((i : Int), (1 : Int)) ∈ l <;> by_cases h2 : ((i : Int), (2 : Int)) ∈ l <;> simp only [h1, h2, if_true, if_false] <;> decide
theorem range_any {p : Nat → Bool} {k : Nat} (h : (List.range k).any p = false) (hp : p k = false) : (List.range (k + 1)).any p = false := by
  rw [List.range_succ, List.any_append, h, Bool.false_or]
  simp [hp]
theorem range_any_t {p : Nat → Bool} {N k : Nat} (h : k < N) (hp : p k = true) : (List.range N).any p = true := List.any_eq_true.2 ⟨k, List.mem_range.2 h, hp⟩
theorem f15_ok {G} (ns : List TN) (root : Int) (hs : Sane ns) : HP Try.prog G 15 [typeS ns root] (fun r => (mayZ ns root ≠ 0 ∧ r = .d (i64 (mayZ ns root))) ∨ (mayZ ns root = 0 ∧ ∃ l, r = .d (i64 (if polarB ns l then 0 else 12)) ∧ Spots ns root l)) := by
  refine funP_ok Try.func15 rfl (by decide +kernel) (by simp [Try.ntmps15]) (veil fun E => ?_)
  unfold typeS
  simp only [go_sem, Nat.reduceEqDiff, Nat.reduceLT, ↓reduceIte, Nat.reduceAdd, Nat.reduceMul, Nat.reduceLeDiff, Nat.reduceSub, Nat.reduceBEq, Int.reduceEq, Int.reduceLT, Int.reduceLE, Int.reduceToNat, Int.reduceAdd, Int.reduceSub, Int.reduceNeg, UInt8.reduceToNat]
  refine e_call E (f20_ok ns root hs) rfl rfl (by simp) ?_
  rintro _ rfl
  simp only [go_sem, Nat.reduceEqDiff, Nat.reduceLT, ↓reduceIte, Nat.reduceAdd, Nat.reduceMul, Nat.reduceLeDiff, Nat.reduceSub, Nat.reduceBEq, Int.reduceEq, Int.reduceLT, Int.reduceLE, Int.reduceToNat, Int.reduceAdd, Int.reduceSub, Int.reduceNeg, UInt8.reduceToNat]
  refine e_ifd E (fun h1 => ?_) (fun h1 => ?_) <;> simp only [go_sem, Nat.reduceEqDiff, Nat.reduceLT, ↓reduceIte, Nat.reduceAdd, Nat.reduceMul, Nat.reduceLeDiff, Nat.reduceSub, Nat.reduceBEq, Int.reduceEq, Int.reduceLT, Int.reduceLE, Int.reduceToNat, Int.reduceAdd, Int.reduceSub, Int.reduceNeg, UInt8.reduceToNat]
  · exact .inl h1
  have h1 : mayZ ns root = 0 := by simpa using h1
  obtain ⟨⟨h2, h3⟩, h4, h5, h6⟩ := may_ok h1
  refine e_call E (f27_ok ns root h3 (fun n hn => (hs.2 n hn).1) (rights_kids h5) h4) rfl rfl (by simp) ?_
  rintro _ ⟨l, rfl, hl⟩
  unfold intsD
  simp only [go_sem, Nat.reduceEqDiff, Nat.reduceLT, ↓reduceIte, Nat.reduceAdd, Nat.reduceMul, Nat.reduceLeDiff, Nat.reduceSub, Nat.reduceBEq, Int.reduceEq, Int.reduceLT, Int.reduceLE, Int.reduceToNat, Int.reduceAdd, Int.reduceSub, Int.reduceNeg, UInt8.reduceToNat]
  refine c_frB E [1] (.agg [.sl (some 4) (ns.map nodeD), i64 root]) rfl rfl ?_
  simp only [go_sem, Nat.reduceEqDiff, Nat.reduceLT, ↓reduceIte, Nat.reduceAdd, Nat.reduceMul, Nat.reduceLeDiff, Nat.reduceSub, Nat.reduceBEq, Int.reduceEq, Int.reduceLT, Int.reduceLE, Int.reduceToNat, Int.reduceAdd, Int.reduceSub, Int.reduceNeg, UInt8.reduceToNat]
  rw [sdL_len]
  refine loopP_e E (X := { k : Nat // k ≤ ns.length ∧ (List.range k).any (badP ns l) = false }) (fun x => [(1, .d (.ptr (.agg [.sl (some 4) (ns.map nodeD), i64 root]))), (13, .d (.sl none ((sdL ns.length l).map i64))), (14, .d (i64 ns.length)), (15, .d (i64 x.1))]) (fun x => ns.length - x.1) rfl ⟨0, Nat.zero_le _, rfl⟩ ?_ ?_
  · simp only [go_sem, Nat.reduceEqDiff, Nat.reduceLT, ↓reduceIte, Nat.reduceAdd, Nat.reduceMul, Nat.reduceLeDiff, Nat.reduceSub, Nat.reduceBEq, Int.reduceEq, Int.reduceLT, Int.reduceLE, Int.reduceToNat, Int.reduceAdd, Int.reduceSub, Int.reduceNeg, UInt8.reduceToNat]
    all_goals rfl
  rintro ⟨k, hkl, hb⟩ E'
  simp only [go_sem, Nat.reduceEqDiff, Nat.reduceLT, ↓reduceIte, Nat.reduceAdd, Nat.reduceMul, Nat.reduceLeDiff, Nat.reduceSub, Nat.reduceBEq, Int.reduceEq, Int.reduceLT, Int.reduceLE, Int.reduceToNat, Int.reduceAdd, Int.reduceSub, Int.reduceNeg, UInt8.reduceToNat]
  refine e_ifd E' (fun h7 => ?_) (fun h7 => ?_) <;> simp only [go_sem, Nat.reduceEqDiff, Nat.reduceLT, ↓reduceIte, Nat.reduceAdd, Nat.reduceMul, Nat.reduceLeDiff, Nat.reduceSub, Nat.reduceBEq, Int.reduceEq, Int.reduceLT, Int.reduceLE, Int.reduceToNat, Int.reduceAdd, Int.reduceSub, Int.reduceNeg, UInt8.reduceToNat]
  · have h7' : k < ns.length := by omega
    have hsl : (sdL ns.length l).length = ns.length := sdL_len _ _
    refine ⟨⟨by omega, by omega⟩, ?_⟩
    rw [sdL_get' h7']
    simp only [go_sem, Nat.reduceEqDiff, Nat.reduceLT, ↓reduceIte, Nat.reduceAdd, Nat.reduceMul, Nat.reduceLeDiff, Nat.reduceSub, Nat.reduceBEq, Int.reduceEq, Int.reduceLT, Int.reduceLE, Int.reduceToNat, Int.reduceAdd, Int.reduceSub, Int.reduceNeg, UInt8.reduceToNat]
    refine ⟨⟨by omega, by omega⟩, ?_⟩
    rw [nodes_nd h7']
    simp only [go_sem, Nat.reduceEqDiff, Nat.reduceLT, ↓reduceIte, Nat.reduceAdd, Nat.reduceMul, Nat.reduceLeDiff, Nat.reduceSub, Nat.reduceBEq, Int.reduceEq, Int.reduceLT, Int.reduceLE, Int.reduceToNat, Int.reduceAdd, Int.reduceSub, Int.reduceNeg, UInt8.reduceToNat]
    repeat (first
      | (apply e_gm E'; (· simp only [go_sem, Nat.reduceEqDiff, Nat.reduceLT, ↓reduceIte, Nat.reduceAdd, Nat.reduceMul, Nat.reduceLeDiff, Nat.reduceSub, Nat.reduceBEq, Int.reduceEq, Int.reduceLT, Int.reduceLE, Int.reduceToNat, Int.reduceAdd, Int.reduceSub, Int.reduceNeg, UInt8.reduceToNat]); (· intro h; (try simp only [Bool.and_eq_true, Bool.not_eq_true', Bool.not_eq_false'] at h); simp only [↓h, go_sem, Nat.reduceEqDiff, Nat.reduceLT, ↓reduceIte, Nat.reduceAdd, Nat.reduceMul, Nat.reduceLeDiff, Nat.reduceSub, Nat.reduceBEq, Int.reduceEq, Int.reduceLT, Int.reduceLE, Int.reduceToNat, Int.reduceAdd, Int.reduceSub, Int.reduceNeg, UInt8.reduceToNat]; rfl); simp only [go_sem, Nat.reduceEqDiff, Nat.reduceLT, ↓reduceIte, Nat.reduceAdd, Nat.reduceMul, Nat.reduceLeDiff, Nat.reduceSub, Nat.reduceBEq, Int.reduceEq, Int.reduceLT, Int.reduceLE, Int.reduceToNat, Int.reduceAdd, Int.reduceSub, Int.reduceNeg, UInt8.reduceToNat])
      | (apply e_gpk E'; (· simp only [go_sem, Nat.reduceEqDiff, Nat.reduceLT, ↓reduceIte, Nat.reduceAdd, Nat.reduceMul, Nat.reduceLeDiff, Nat.reduceSub, Nat.reduceBEq, Int.reduceEq, Int.reduceLT, Int.reduceLE, Int.reduceToNat, Int.reduceAdd, Int.reduceSub, Int.reduceNeg, UInt8.reduceToNat]); (· intro h; (try simp only [Bool.and_eq_true, Bool.not_eq_true', Bool.not_eq_false'] at h); simp only [↓h, go_sem, Nat.reduceEqDiff, Nat.reduceLT, ↓reduceIte, Nat.reduceAdd, Nat.reduceMul, Nat.reduceLeDiff, Nat.reduceSub, Nat.reduceBEq, Int.reduceEq, Int.reduceLT, Int.reduceLE, Int.reduceToNat, Int.reduceAdd, Int.reduceSub, Int.reduceNeg, UInt8.reduceToNat]; rfl); (· intro h; (try simp only [Bool.and_eq_true, Bool.not_eq_true', Bool.not_eq_false'] at h); simp only [↓h, go_sem, Nat.reduceEqDiff, Nat.reduceLT, ↓reduceIte, Nat.reduceAdd, Nat.reduceMul, Nat.reduceLeDiff, Nat.reduceSub, Nat.reduceBEq, Int.reduceEq, Int.reduceLT, Int.reduceLE, Int.reduceToNat, Int.reduceAdd, Int.reduceSub, Int.reduceNeg, UInt8.reduceToNat]; rfl); simp only [go_sem, Nat.reduceEqDiff, Nat.reduceLT, ↓reduceIte, Nat.reduceAdd, Nat.reduceMul, Nat.reduceLeDiff, Nat.reduceSub, Nat.reduceBEq, Int.reduceEq, Int.reduceLT, Int.reduceLE, Int.reduceToNat, Int.reduceAdd, Int.reduceSub, Int.reduceNeg, UInt8.reduceToNat])
      | (apply e_gm2 E'; (· simp only [go_sem, Nat.reduceEqDiff, Nat.reduceLT, ↓reduceIte, Nat.reduceAdd, Nat.reduceMul, Nat.reduceLeDiff, Nat.reduceSub, Nat.reduceBEq, Int.reduceEq, Int.reduceLT, Int.reduceLE, Int.reduceToNat, Int.reduceAdd, Int.reduceSub, Int.reduceNeg, UInt8.reduceToNat]); (· rfl); (· intro h h'; (try simp only [Bool.and_eq_true, Bool.not_eq_true', Bool.not_eq_false'] at h h'); simp only [↓h, ↓h', go_sem, Nat.reduceEqDiff, Nat.reduceLT, ↓reduceIte, Nat.reduceAdd, Nat.reduceMul, Nat.reduceLeDiff, Nat.reduceSub, Nat.reduceBEq, Int.reduceEq, Int.reduceLT, Int.reduceLE, Int.reduceToNat, Int.reduceAdd, Int.reduceSub, Int.reduceNeg, UInt8.reduceToNat]; rfl); simp only [go_sem, Nat.reduceEqDiff, Nat.reduceLT, ↓reduceIte, Nat.reduceAdd, Nat.reduceMul, Nat.reduceLeDiff, Nat.reduceSub, Nat.reduceBEq, Int.reduceEq, Int.reduceLT, Int.reduceLE, Int.reduceToNat, Int.reduceAdd, Int.reduceSub, Int.reduceNeg, UInt8.reduceToNat])
      | (apply e_gpk2 E'; (· simp only [go_sem, Nat.reduceEqDiff, Nat.reduceLT, ↓reduceIte, Nat.reduceAdd, Nat.reduceMul, Nat.reduceLeDiff, Nat.reduceSub, Nat.reduceBEq, Int.reduceEq, Int.reduceLT, Int.reduceLE, Int.reduceToNat, Int.reduceAdd, Int.reduceSub, Int.reduceNeg, UInt8.reduceToNat]); (· rfl); (· intro h h'; (try simp only [Bool.and_eq_true, Bool.not_eq_true', Bool.not_eq_false'] at h h'); simp only [↓h, ↓h', go_sem, Nat.reduceEqDiff, Nat.reduceLT, ↓reduceIte, Nat.reduceAdd, Nat.reduceMul, Nat.reduceLeDiff, Nat.reduceSub, Nat.reduceBEq, Int.reduceEq, Int.reduceLT, Int.reduceLE, Int.reduceToNat, Int.reduceAdd, Int.reduceSub, Int.reduceNeg, UInt8.reduceToNat]; rfl); (· intro h h'; (try simp only [Bool.and_eq_true, Bool.not_eq_true', Bool.not_eq_false'] at h h'); simp only [↓h, ↓h', go_sem, Nat.reduceEqDiff, Nat.reduceLT, ↓reduceIte, Nat.reduceAdd, Nat.reduceMul, Nat.reduceLeDiff, Nat.reduceSub, Nat.reduceBEq, Int.reduceEq, Int.reduceLT, Int.reduceLE, Int.reduceToNat, Int.reduceAdd, Int.reduceSub, Int.reduceNeg, UInt8.reduceToNat]; rfl); simp only [go_sem, Nat.reduceEqDiff, Nat.reduceLT, ↓reduceIte, Nat.reduceAdd, Nat.reduceMul, Nat.reduceLeDiff, Nat.reduceSub, Nat.reduceBEq, Int.reduceEq, Int.reduceLT, Int.reduceLE, Int.reduceToNat, Int.reduceAdd, Int.reduceSub, Int.reduceNeg, UInt8.reduceToNat])
      | (apply e_pk E'; (· decide); simp only [go_sem, Nat.reduceEqDiff, Nat.reduceLT, ↓reduceIte, Nat.reduceAdd, Nat.reduceMul, Nat.reduceLeDiff, Nat.reduceSub, Nat.reduceBEq, Int.reduceEq, Int.reduceLT, Int.reduceLE, Int.reduceToNat, Int.reduceAdd, Int.reduceSub, Int.reduceNeg, UInt8.reduceToNat]))
    rw [sd_and2]
    have bad : badP ns l k = true → polarB ns l = false := fun h => by rw [polarB, range_any_t h7' h]; rfl
    refine e_if E' (fun h8 => ?_) (fun h8 => ?_) <;> simp only [go_sem, Nat.reduceEqDiff, Nat.reduceLT, ↓reduceIte, Nat.reduceAdd, Nat.reduceMul, Nat.reduceLeDiff, Nat.reduceSub, Nat.reduceBEq, Int.reduceEq, Int.reduceLT, Int.reduceLE, Int.reduceToNat, Int.reduceAdd, Int.reduceSub, Int.reduceNeg, UInt8.reduceToNat]
    · rw [h8]
      simp only [go_sem, Nat.reduceEqDiff, Nat.reduceLT, ↓reduceIte, Nat.reduceAdd, Nat.reduceMul, Nat.reduceLeDiff, Nat.reduceSub, Nat.reduceBEq, Int.reduceEq, Int.reduceLT, Int.reduceLE, Int.reduceToNat, Int.reduceAdd, Int.reduceSub, Int.reduceNeg, UInt8.reduceToNat]
      refine .inr ⟨h1, l, ?_, hl⟩
      rw [bad (by rw [badP, h8, Bool.true_or])]
      rfl
    · repeat (first
        | (apply e_gm E'; (· simp only [go_sem, Nat.reduceEqDiff, Nat.reduceLT, ↓reduceIte, Nat.reduceAdd, Nat.reduceMul, Nat.reduceLeDiff, Nat.reduceSub, Nat.reduceBEq, Int.reduceEq, Int.reduceLT, Int.reduceLE, Int.reduceToNat, Int.reduceAdd, Int.reduceSub, Int.reduceNeg, UInt8.reduceToNat]); (· intro h; (try simp only [Bool.and_eq_true, Bool.not_eq_true', Bool.not_eq_false'] at h); simp only [↓h, go_sem, Nat.reduceEqDiff, Nat.reduceLT, ↓reduceIte, Nat.reduceAdd, Nat.reduceMul, Nat.reduceLeDiff, Nat.reduceSub, Nat.reduceBEq, Int.reduceEq, Int.reduceLT, Int.reduceLE, Int.reduceToNat, Int.reduceAdd, Int.reduceSub, Int.reduceNeg, UInt8.reduceToNat]; rfl); simp only [go_sem, Nat.reduceEqDiff, Nat.reduceLT, ↓reduceIte, Nat.reduceAdd, Nat.reduceMul, Nat.reduceLeDiff, Nat.reduceSub, Nat.reduceBEq, Int.reduceEq, Int.reduceLT, Int.reduceLE, Int.reduceToNat, Int.reduceAdd, Int.reduceSub, Int.reduceNeg, UInt8.reduceToNat])
        | (apply e_gpk E'; (· simp only [go_sem, Nat.reduceEqDiff, Nat.reduceLT, ↓reduceIte, Nat.reduceAdd, Nat.reduceMul, Nat.reduceLeDiff, Nat.reduceSub, Nat.reduceBEq, Int.reduceEq, Int.reduceLT, Int.reduceLE, Int.reduceToNat, Int.reduceAdd, Int.reduceSub, Int.reduceNeg, UInt8.reduceToNat]); (· intro h; (try simp only [Bool.and_eq_true, Bool.not_eq_true', Bool.not_eq_false'] at h); simp only [↓h, go_sem, Nat.reduceEqDiff, Nat.reduceLT, ↓reduceIte, Nat.reduceAdd, Nat.reduceMul, Nat.reduceLeDiff, Nat.reduceSub, Nat.reduceBEq, Int.reduceEq, Int.reduceLT, Int.reduceLE, Int.reduceToNat, Int.reduceAdd, Int.reduceSub, Int.reduceNeg, UInt8.reduceToNat]; rfl); (· intro h; (try simp only [Bool.and_eq_true, Bool.not_eq_true', Bool.not_eq_false'] at h); simp only [↓h, go_sem, Nat.reduceEqDiff, Nat.reduceLT, ↓reduceIte, Nat.reduceAdd, Nat.reduceMul, Nat.reduceLeDiff, Nat.reduceSub, Nat.reduceBEq, Int.reduceEq, Int.reduceLT, Int.reduceLE, Int.reduceToNat, Int.reduceAdd, Int.reduceSub, Int.reduceNeg, UInt8.reduceToNat]; rfl); simp only [go_sem, Nat.reduceEqDiff, Nat.reduceLT, ↓reduceIte, Nat.reduceAdd, Nat.reduceMul, Nat.reduceLeDiff, Nat.reduceSub, Nat.reduceBEq, Int.reduceEq, Int.reduceLT, Int.reduceLE, Int.reduceToNat, Int.reduceAdd, Int.reduceSub, Int.reduceNeg, UInt8.reduceToNat])
        | (apply e_gm2 E'; (· simp only [go_sem, Nat.reduceEqDiff, Nat.reduceLT, ↓reduceIte, Nat.reduceAdd, Nat.reduceMul, Nat.reduceLeDiff, Nat.reduceSub, Nat.reduceBEq, Int.reduceEq, Int.reduceLT, Int.reduceLE, Int.reduceToNat, Int.reduceAdd, Int.reduceSub, Int.reduceNeg, UInt8.reduceToNat]); (· rfl); (· intro h h'; (try simp only [Bool.and_eq_true, Bool.not_eq_true', Bool.not_eq_false'] at h h'); simp only [↓h, ↓h', go_sem, Nat.reduceEqDiff, Nat.reduceLT, ↓reduceIte, Nat.reduceAdd, Nat.reduceMul, Nat.reduceLeDiff, Nat.reduceSub, Nat.reduceBEq, Int.reduceEq, Int.reduceLT, Int.reduceLE, Int.reduceToNat, Int.reduceAdd, Int.reduceSub, Int.reduceNeg, UInt8.reduceToNat]; rfl); simp only [go_sem, Nat.reduceEqDiff, Nat.reduceLT, ↓reduceIte, Nat.reduceAdd, Nat.reduceMul, Nat.reduceLeDiff, Nat.reduceSub, Nat.reduceBEq, Int.reduceEq, Int.reduceLT, Int.reduceLE, Int.reduceToNat, Int.reduceAdd, Int.reduceSub, Int.reduceNeg, UInt8.reduceToNat])
        | (apply e_gpk2 E'; (· simp only [go_sem, Nat.reduceEqDiff, Nat.reduceLT, ↓reduceIte, Nat.reduceAdd, Nat.reduceMul, Nat.reduceLeDiff, Nat.reduceSub, Nat.reduceBEq, Int.reduceEq, Int.reduceLT, Int.reduceLE, Int.reduceToNat, Int.reduceAdd, Int.reduceSub, Int.reduceNeg, UInt8.reduceToNat]); (· rfl); (· intro h h'; (try simp only [Bool.and_eq_true, Bool.not_eq_true', Bool.not_eq_false'] at h h'); simp only [↓h, ↓h', go_sem, Nat.reduceEqDiff, Nat.reduceLT, ↓reduceIte, Nat.reduceAdd, Nat.reduceMul, Nat.reduceLeDiff, Nat.reduceSub, Nat.reduceBEq, Int.reduceEq, Int.reduceLT, Int.reduceLE, Int.reduceToNat, Int.reduceAdd, Int.reduceSub, Int.reduceNeg, UInt8.reduceToNat]; rfl); (· intro h h'; (try simp only [Bool.and_eq_true, Bool.not_eq_true', Bool.not_eq_false'] at h h'); simp only [↓h, ↓h', go_sem, Nat.reduceEqDiff, Nat.reduceLT, ↓reduceIte, Nat.reduceAdd, Nat.reduceMul, Nat.reduceLeDiff, Nat.reduceSub, Nat.reduceBEq, Int.reduceEq, Int.reduceLT, Int.reduceLE, Int.reduceToNat, Int.reduceAdd, Int.reduceSub, Int.reduceNeg, UInt8.reduceToNat]; rfl); simp only [go_sem, Nat.reduceEqDiff, Nat.reduceLT, ↓reduceIte, Nat.reduceAdd, Nat.reduceMul, Nat.reduceLeDiff, Nat.reduceSub, Nat.reduceBEq, Int.reduceEq, Int.reduceLT, Int.reduceLE, Int.reduceToNat, Int.reduceAdd, Int.reduceSub, Int.reduceNeg, UInt8.reduceToNat])
        | (apply e_pk E'; (· decide); simp only [go_sem, Nat.reduceEqDiff, Nat.reduceLT, ↓reduceIte, Nat.reduceAdd, Nat.reduceMul, Nat.reduceLeDiff, Nat.reduceSub, Nat.reduceBEq, Int.reduceEq, Int.reduceLT, Int.reduceLE, Int.reduceToNat, Int.reduceAdd, Int.reduceSub, Int.reduceNeg, UInt8.reduceToNat]))
      rw [sd_and1]
      refine e_if E' (fun h9 => ?_) (fun h9 => ?_) <;> simp only [go_sem, Nat.reduceEqDiff, Nat.reduceLT, ↓reduceIte, Nat.reduceAdd, Nat.reduceMul, Nat.reduceLeDiff, Nat.reduceSub, Nat.reduceBEq, Int.reduceEq, Int.reduceLT, Int.reduceLE, Int.reduceToNat, Int.reduceAdd, Int.reduceSub, Int.reduceNeg, UInt8.reduceToNat]
      · refine .inr ⟨h1, l, ?_, hl⟩
        rw [bad (by rw [badP, h9, Bool.or_true])]
        rfl
      · refine ⟨⟨k + 1, by omega, range_any hb (by rw [badP, h8, h9]; rfl)⟩, by show ns.length - (k + 1) < _; omega, ?_⟩
        rw [w64_in ⟨by omega, by omega⟩]; rfl
  · have : k = ns.length := by omega
    subst this
    refine .inr ⟨h1, l, ?_, hl⟩
    rw [polarB, hb]
    rfl
end Go.Proofs.Ytmplpdjddjiioaa
