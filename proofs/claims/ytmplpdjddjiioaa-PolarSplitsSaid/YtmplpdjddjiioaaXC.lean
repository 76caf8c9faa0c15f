/-
  Each variable's sides, in order: the program's answer.
-/
import Derived.Test.YtmplpdjddjiioaaXS
set_option linter.all false
namespace Go.Proofs.Ytmplpdjddjiioaa
open Go.Ab
theorem key3 : KeyE Try.prog 3 (fun n : Int => D.int .i64 n) (fun n => .int .i64 n) := keyInt (by rw [ti3])
def mE (M : List (Int × Int)) : List (D × D) := menc (fun n : Int => D.int .i64 n) (tD M)
theorem mE_split {M : List (Int × Int)} {l1 : List (D × D)} {y : D × D} {l2 : List (D × D)} (h : mE M = l1 ++ y :: l2) : ∃ a q b, M = a ++ q :: b ∧ l1 = mE a ∧ y = (i64 q.1, i64 q.2) ∧ l2 = mE b := by
  have h : M.map (fun q => (i64 q.1, i64 q.2)) = l1 ++ y :: l2 := by rw [← h]; simp [mE, menc, tD, Function.comp_def]
  rw [List.map_eq_append_iff] at h
  obtain ⟨a, r, rfl, rfl, h2⟩ := h
  rw [List.map_eq_cons_iff] at h2
  obtain ⟨q, b, rfl, rfl, rfl⟩ := h2
  exact ⟨a, q, b, rfl, by simp [mE, menc, tD, Function.comp_def], rfl, by simp [mE, menc, tD, Function.comp_def]⟩
theorem VM.range {ns : List TN} {l : List Spot} {M : List (Int × Int)} (hr : rightsB ns = true) (h : VM ns l ns.length M) : ∀ q ∈ M, 0 ≤ q.1 ∧ q.1 < 1000 := by
  intro q hq
  have h1 := (tlook_mem h.dup).2 hq
  rw [h.look] at h1
  have h2 : vS ns l q.1 ns.length ≠ 0 := by
    intro e
    rw [if_pos e] at h1; cases h1
  have h3 : ∃ s, hasS ns l q.1 s ns.length = true := by
    cases ha : hasS ns l q.1 1 ns.length with
    | true => exact ⟨1, ha⟩
    | false =>
      cases hb : hasS ns l q.1 2 ns.length with
      | true => exact ⟨2, hb⟩
      | false => exact absurd (by rw [vS, ha, hb]; rfl) h2
  obtain ⟨s, h3⟩ := h3
  obtain ⟨i, hi, hh⟩ := List.any_eq_true.1 h3
  have hi := List.mem_range.1 hi
  simp only [Bool.and_eq_true, decide_eq_true_eq] at hh
  obtain ⟨⟨hk, ha⟩, _⟩ := hh
  have hrt := rights_nd hr hi
  simp only [rightB, hk, decide_true, Bool.true_and, Bool.and_eq_true, Bool.not_eq_true', Bool.or_eq_false_iff, decide_eq_false_iff_not] at hrt
  have := hrt.1.1.2
  omega
theorem VM.len {ns : List TN} {l : List Spot} {M : List (Int × Int)} (hr : rightsB ns = true) (h : VM ns l ns.length M) : M.length ≤ 1000 := by
  have hR := h.range hr
  have := nodup_len 1000 (M.map fun q => q.1.toNat) (by
    have hd : M.Pairwise (fun x y => x.1 ≠ y.1) := List.pairwise_map.1 h.dup
    refine List.pairwise_map.2 ?_
    refine List.Pairwise.imp_of_mem ?_ hd
    intro x y hx hy hxy
    have := hR x hx
    have := hR y hy
    omega) (fun x hx => by
    obtain ⟨q, hq, rfl⟩ := List.mem_map.1 hx
    have := hR q hq
    omega)
  simpa using this
theorem VM.same {ns : List TN} {l : List Spot} {M : List (Int × Int)} (hr : rightsB ns = true) (h : VM ns l ns.length M) {l' : List (Int × Int)} (hp : l'.Perm M) (hs : l'.Pairwise (fun x y => x.1 ≤ y.1)) : l' = usesL ns l := by
  have hd : (l'.map (·.1)).Nodup := (hp.map (·.1)).nodup_iff.2 h.dup
  refine sorted_same ?_ (usesL_sorted ns l) fun q => ?_
  · have hd' : l'.Pairwise (fun x y => x.1 ≠ y.1) := List.pairwise_map.1 hd
    refine (hs.and hd').imp ?_
    intro x y h
    omega
  · rw [hp.mem_iff, show q = (q.1, q.2) from rfl, ← tlook_mem h.dup, h.look, usesL_mem]
    constructor
    · intro e
      have hr := h.range hr (q.1, q.2) ((tlook_mem h.dup).1 (by rw [h.look]; exact e))
      split at e
      · cases e
      · rename_i e0
        rw [← Option.some.inj e]
        exact ⟨hr, e0, rfl⟩
    · rintro ⟨_, h2, h3⟩
      rw [← h3, if_neg h2]
set_option maxHeartbeats 1000000 in
theorem f14_ok {G} (ns : List TN) (root : Int) (hs : Sane ns) : HP Try.prog G 14 [typeS ns root] (fun r => (mayZ ns root ≠ 0 ∧ r = .tup [.d .nils, .d (i64 (mayZ ns root))]) ∨ (mayZ ns root = 0 ∧ ∃ l, r = .tup [.d (.sl (some 2) ((usesL ns l).map spotD)), .d (i64 0)] ∧ Spots ns root l)) := by
  refine funZ_ok Try.func14 rfl (by decide +kernel) (by simp [Try.ntmps14]) (veil fun E => ?_)
  unfold typeS
  simp only [go_sem, Nat.reduceEqDiff, Nat.reduceLT, ↓reduceIte, Nat.reduceAdd, Nat.reduceMul, Nat.reduceLeDiff, Nat.reduceSub, Nat.reduceBEq, Int.reduceEq, Int.reduceLT, Int.reduceLE, Int.reduceToNat, Int.reduceAdd, Int.reduceSub, Int.reduceNeg, UInt8.reduceToNat]
  refine e_call E (f20_ok ns root hs) rfl rfl (by simp) ?_
  rintro _ rfl
  simp only [go_sem, Nat.reduceEqDiff, Nat.reduceLT, ↓reduceIte, Nat.reduceAdd, Nat.reduceMul, Nat.reduceLeDiff, Nat.reduceSub, Nat.reduceBEq, Int.reduceEq, Int.reduceLT, Int.reduceLE, Int.reduceToNat, Int.reduceAdd, Int.reduceSub, Int.reduceNeg, UInt8.reduceToNat]
  refine e_ifd E (fun h1 => ?_) (fun h1 => ?_) <;> simp only [go_sem, Nat.reduceEqDiff, Nat.reduceLT, ↓reduceIte, Nat.reduceAdd, Nat.reduceMul, Nat.reduceLeDiff, Nat.reduceSub, Nat.reduceBEq, Int.reduceEq, Int.reduceLT, Int.reduceLE, Int.reduceToNat, Int.reduceAdd, Int.reduceSub, Int.reduceNeg, UInt8.reduceToNat]
  · refine ⟨[], ?_⟩
    simp only [go_sem, Nat.reduceEqDiff, Nat.reduceLT, ↓reduceIte, Nat.reduceAdd, Nat.reduceMul, Nat.reduceLeDiff, Nat.reduceSub, Nat.reduceBEq, Int.reduceEq, Int.reduceLT, Int.reduceLE, Int.reduceToNat, Int.reduceAdd, Int.reduceSub, Int.reduceNeg, UInt8.reduceToNat]
    exact .inl h1
  have h1 : mayZ ns root = 0 := by simpa using h1
  obtain ⟨⟨h2, h3⟩, h4, h5, h6⟩ := may_ok h1
  refine e_makeMap E (by simp only [go_sem, Nat.reduceEqDiff, Nat.reduceLT, ↓reduceIte, Nat.reduceAdd, Nat.reduceMul, Nat.reduceLeDiff, Nat.reduceSub, Nat.reduceBEq, Int.reduceEq, Int.reduceLT, Int.reduceLE, Int.reduceToNat, Int.reduceAdd, Int.reduceSub, Int.reduceNeg, UInt8.reduceToNat]) (by rw [mk_used]; decide) ?_
  simp only [go_sem, Nat.reduceEqDiff, Nat.reduceLT, ↓reduceIte, Nat.reduceAdd, Nat.reduceMul, Nat.reduceLeDiff, Nat.reduceSub, Nat.reduceBEq, Int.reduceEq, Int.reduceLT, Int.reduceLE, Int.reduceToNat, Int.reduceAdd, Int.reduceSub, Int.reduceNeg, UInt8.reduceToNat]
  refine e_call E (f27_ok ns root h3 (fun n hn => (hs.2 n hn).1) (rights_kids h5) h4) rfl rfl (by simp) ?_
  rintro _ ⟨l, rfl, hl⟩
  unfold intsD
  simp only [go_sem, Nat.reduceEqDiff, Nat.reduceLT, ↓reduceIte, Nat.reduceAdd, Nat.reduceMul, Nat.reduceLeDiff, Nat.reduceSub, Nat.reduceBEq, Int.reduceEq, Int.reduceLT, Int.reduceLE, Int.reduceToNat, Int.reduceAdd, Int.reduceSub, Int.reduceNeg, UInt8.reduceToNat]
  refine c_frB E [1] (.agg [.sl (some 4) (ns.map nodeD), i64 root]) rfl rfl ?_
  simp only [go_sem, Nat.reduceEqDiff, Nat.reduceLT, ↓reduceIte, Nat.reduceAdd, Nat.reduceMul, Nat.reduceLeDiff, Nat.reduceSub, Nat.reduceBEq, Int.reduceEq, Int.reduceLT, Int.reduceLE, Int.reduceToNat, Int.reduceAdd, Int.reduceSub, Int.reduceNeg, UInt8.reduceToNat]
  rw [sdL_len]
  refine loopO_e E (X := { x : Nat × List (Int × Int) // x.1 ≤ ns.length ∧ VM ns l x.1 x.2 }) (fun x => [(1, .d (.ptr (.agg [.sl (some 4) (ns.map nodeD), i64 root]))), (5, .mp [17]), (19, .d (.sl none ((sdL ns.length l).map i64))), (20, .d (i64 ns.length)), (21, .d (i64 x.1.1))]) (fun x => [([17], .map (menc (fun n : Int => D.int .i64 n) (tD x.1.2)))]) [17] (fun x => ns.length - x.1.1) ⟨(0, []), Nat.zero_le _, .init ns l⟩ ?_ ?_
  · simp only [go_sem, Nat.reduceEqDiff, Nat.reduceLT, ↓reduceIte, Nat.reduceAdd, Nat.reduceMul, Nat.reduceLeDiff, Nat.reduceSub, Nat.reduceBEq, Int.reduceEq, Int.reduceLT, Int.reduceLE, Int.reduceToNat, Int.reduceAdd, Int.reduceSub, Int.reduceNeg, UInt8.reduceToNat]
    all_goals rfl
  rintro ⟨⟨k, M⟩, hk, hM⟩ E0
  refine hideQ E0 fun Q' hQ E' => ?_
  simp only at hk hM ⊢
  simp only [go_sem, Nat.reduceEqDiff, Nat.reduceLT, ↓reduceIte, Nat.reduceAdd, Nat.reduceMul, Nat.reduceLeDiff, Nat.reduceSub, Nat.reduceBEq, Int.reduceEq, Int.reduceLT, Int.reduceLE, Int.reduceToNat, Int.reduceAdd, Int.reduceSub, Int.reduceNeg, UInt8.reduceToNat]
  refine e_ifd E' (fun h7 => ?_) (fun h7 => ?_) <;> simp only [go_sem, Nat.reduceEqDiff, Nat.reduceLT, ↓reduceIte, Nat.reduceAdd, Nat.reduceMul, Nat.reduceLeDiff, Nat.reduceSub, Nat.reduceBEq, Int.reduceEq, Int.reduceLT, Int.reduceLE, Int.reduceToNat, Int.reduceAdd, Int.reduceSub, Int.reduceNeg, UInt8.reduceToNat]
  · have h7' : k < ns.length := by omega
    have hsl : (sdL ns.length l).length = ns.length := sdL_len _ _
    refine ⟨⟨by omega, by omega⟩, ?_⟩
    rw [sdL_get' h7']
    simp only [go_sem, Nat.reduceEqDiff, Nat.reduceLT, ↓reduceIte, Nat.reduceAdd, Nat.reduceMul, Nat.reduceLeDiff, Nat.reduceSub, Nat.reduceBEq, Int.reduceEq, Int.reduceLT, Int.reduceLE, Int.reduceToNat, Int.reduceAdd, Int.reduceSub, Int.reduceNeg, UInt8.reduceToNat]
    refine ⟨⟨by omega, by omega⟩, ?_⟩
    rw [nodes_nd h7']
    simp only [go_sem, Nat.reduceEqDiff, Nat.reduceLT, ↓reduceIte, Nat.reduceAdd, Nat.reduceMul, Nat.reduceLeDiff, Nat.reduceSub, Nat.reduceBEq, Int.reduceEq, Int.reduceLT, Int.reduceLE, Int.reduceToNat, Int.reduceAdd, Int.reduceSub, Int.reduceNeg, UInt8.reduceToNat]
    repeat (first
      | (apply e_gm E'; (· simp only [go_sem, Nat.reduceEqDiff, Nat.reduceLT, ↓reduceIte, Nat.reduceAdd, Nat.reduceMul, Nat.reduceLeDiff, Nat.reduceSub, Nat.reduceBEq, Int.reduceEq, Int.reduceLT, Int.reduceLE, Int.reduceToNat, Int.reduceAdd, Int.reduceSub, Int.reduceNeg, UInt8.reduceToNat]); (· intro h; (try simp only [Bool.and_eq_true, Bool.not_eq_true', Bool.not_eq_false'] at h); simp only [↓h, go_sem, Nat.reduceEqDiff, Nat.reduceLT, ↓reduceIte, Nat.reduceAdd, Nat.reduceMul, Nat.reduceLeDiff, Nat.reduceSub, Nat.reduceBEq, Int.reduceEq, Int.reduceLT, Int.reduceLE, Int.reduceToNat, Int.reduceAdd, Int.reduceSub, Int.reduceNeg, UInt8.reduceToNat]; rfl); simp only [go_sem, Nat.reduceEqDiff, Nat.reduceLT, ↓reduceIte, Nat.reduceAdd, Nat.reduceMul, Nat.reduceLeDiff, Nat.reduceSub, Nat.reduceBEq, Int.reduceEq, Int.reduceLT, Int.reduceLE, Int.reduceToNat, Int.reduceAdd, Int.reduceSub, Int.reduceNeg, UInt8.reduceToNat])
      | (apply e_gpk E'; (· simp only [go_sem, Nat.reduceEqDiff, Nat.reduceLT, ↓reduceIte, Nat.reduceAdd, Nat.reduceMul, Nat.reduceLeDiff, Nat.reduceSub, Nat.reduceBEq, Int.reduceEq, Int.reduceLT, Int.reduceLE, Int.reduceToNat, Int.reduceAdd, Int.reduceSub, Int.reduceNeg, UInt8.reduceToNat]); (· intro h; (try simp only [Bool.and_eq_true, Bool.not_eq_true', Bool.not_eq_false'] at h); simp only [↓h, go_sem, Nat.reduceEqDiff, Nat.reduceLT, ↓reduceIte, Nat.reduceAdd, Nat.reduceMul, Nat.reduceLeDiff, Nat.reduceSub, Nat.reduceBEq, Int.reduceEq, Int.reduceLT, Int.reduceLE, Int.reduceToNat, Int.reduceAdd, Int.reduceSub, Int.reduceNeg, UInt8.reduceToNat]; rfl); (· intro h; (try simp only [Bool.and_eq_true, Bool.not_eq_true', Bool.not_eq_false'] at h); simp only [↓h, go_sem, Nat.reduceEqDiff, Nat.reduceLT, ↓reduceIte, Nat.reduceAdd, Nat.reduceMul, Nat.reduceLeDiff, Nat.reduceSub, Nat.reduceBEq, Int.reduceEq, Int.reduceLT, Int.reduceLE, Int.reduceToNat, Int.reduceAdd, Int.reduceSub, Int.reduceNeg, UInt8.reduceToNat]; rfl); simp only [go_sem, Nat.reduceEqDiff, Nat.reduceLT, ↓reduceIte, Nat.reduceAdd, Nat.reduceMul, Nat.reduceLeDiff, Nat.reduceSub, Nat.reduceBEq, Int.reduceEq, Int.reduceLT, Int.reduceLE, Int.reduceToNat, Int.reduceAdd, Int.reduceSub, Int.reduceNeg, UInt8.reduceToNat])
      | (apply e_gm2 E'; (· simp only [go_sem, Nat.reduceEqDiff, Nat.reduceLT, ↓reduceIte, Nat.reduceAdd, Nat.reduceMul, Nat.reduceLeDiff, Nat.reduceSub, Nat.reduceBEq, Int.reduceEq, Int.reduceLT, Int.reduceLE, Int.reduceToNat, Int.reduceAdd, Int.reduceSub, Int.reduceNeg, UInt8.reduceToNat]); (· rfl); (· intro h h'; (try simp only [Bool.and_eq_true, Bool.not_eq_true', Bool.not_eq_false'] at h h'); simp only [↓h, ↓h', go_sem, Nat.reduceEqDiff, Nat.reduceLT, ↓reduceIte, Nat.reduceAdd, Nat.reduceMul, Nat.reduceLeDiff, Nat.reduceSub, Nat.reduceBEq, Int.reduceEq, Int.reduceLT, Int.reduceLE, Int.reduceToNat, Int.reduceAdd, Int.reduceSub, Int.reduceNeg, UInt8.reduceToNat]; rfl); simp only [go_sem, Nat.reduceEqDiff, Nat.reduceLT, ↓reduceIte, Nat.reduceAdd, Nat.reduceMul, Nat.reduceLeDiff, Nat.reduceSub, Nat.reduceBEq, Int.reduceEq, Int.reduceLT, Int.reduceLE, Int.reduceToNat, Int.reduceAdd, Int.reduceSub, Int.reduceNeg, UInt8.reduceToNat])
      | (apply e_gpk2 E'; (· simp only [go_sem, Nat.reduceEqDiff, Nat.reduceLT, ↓reduceIte, Nat.reduceAdd, Nat.reduceMul, Nat.reduceLeDiff, Nat.reduceSub, Nat.reduceBEq, Int.reduceEq, Int.reduceLT, Int.reduceLE, Int.reduceToNat, Int.reduceAdd, Int.reduceSub, Int.reduceNeg, UInt8.reduceToNat]); (· rfl); (· intro h h'; (try simp only [Bool.and_eq_true, Bool.not_eq_true', Bool.not_eq_false'] at h h'); simp only [↓h, ↓h', go_sem, Nat.reduceEqDiff, Nat.reduceLT, ↓reduceIte, Nat.reduceAdd, Nat.reduceMul, Nat.reduceLeDiff, Nat.reduceSub, Nat.reduceBEq, Int.reduceEq, Int.reduceLT, Int.reduceLE, Int.reduceToNat, Int.reduceAdd, Int.reduceSub, Int.reduceNeg, UInt8.reduceToNat]; rfl); (· intro h h'; (try simp only [Bool.and_eq_true, Bool.not_eq_true', Bool.not_eq_false'] at h h'); simp only [↓h, ↓h', go_sem, Nat.reduceEqDiff, Nat.reduceLT, ↓reduceIte, Nat.reduceAdd, Nat.reduceMul, Nat.reduceLeDiff, Nat.reduceSub, Nat.reduceBEq, Int.reduceEq, Int.reduceLT, Int.reduceLE, Int.reduceToNat, Int.reduceAdd, Int.reduceSub, Int.reduceNeg, UInt8.reduceToNat]; rfl); simp only [go_sem, Nat.reduceEqDiff, Nat.reduceLT, ↓reduceIte, Nat.reduceAdd, Nat.reduceMul, Nat.reduceLeDiff, Nat.reduceSub, Nat.reduceBEq, Int.reduceEq, Int.reduceLT, Int.reduceLE, Int.reduceToNat, Int.reduceAdd, Int.reduceSub, Int.reduceNeg, UInt8.reduceToNat])
      | (apply e_pk E'; (· decide); simp only [go_sem, Nat.reduceEqDiff, Nat.reduceLT, ↓reduceIte, Nat.reduceAdd, Nat.reduceMul, Nat.reduceLeDiff, Nat.reduceSub, Nat.reduceBEq, Int.reduceEq, Int.reduceLT, Int.reduceLE, Int.reduceToNat, Int.reduceAdd, Int.reduceSub, Int.reduceNeg, UInt8.reduceToNat]))
    refine e_if E' (fun h8 => ?_) (fun h8 => ?_) <;> simp only [go_sem, Nat.reduceEqDiff, Nat.reduceLT, ↓reduceIte, Nat.reduceAdd, Nat.reduceMul, Nat.reduceLeDiff, Nat.reduceSub, Nat.reduceBEq, Int.reduceEq, Int.reduceLT, Int.reduceLE, Int.reduceToNat, Int.reduceAdd, Int.reduceSub, Int.reduceNeg, UInt8.reduceToNat]
    · simp only [Bool.and_eq_true, decide_eq_true_eq] at h8
      refine e_lookup E' [17] (tD M) (nd ns k).a (i64 0) (by rw [ti65]) key3 zero3 rfl rfl rfl (by simp) ?_
      have hg : ((mlook (tD M) (nd ns k).a).getD (i64 0)) = i64 (vS ns l (nd ns k).a k) := by
        rw [mlook_t, ← hM.get]
        cases tlook M (nd ns k).a <;> rfl
      simp only [go_sem, Nat.reduceEqDiff, Nat.reduceLT, ↓reduceIte, Nat.reduceAdd, Nat.reduceMul, Nat.reduceLeDiff, Nat.reduceSub, Nat.reduceBEq, Int.reduceEq, Int.reduceLT, Int.reduceLE, Int.reduceToNat, Int.reduceAdd, Int.reduceSub, Int.reduceNeg, UInt8.reduceToNat]
      rw [hg]
      simp only [go_sem, Nat.reduceEqDiff, Nat.reduceLT, ↓reduceIte, Nat.reduceAdd, Nat.reduceMul, Nat.reduceLeDiff, Nat.reduceSub, Nat.reduceBEq, Int.reduceEq, Int.reduceLT, Int.reduceLE, Int.reduceToNat, Int.reduceAdd, Int.reduceSub, Int.reduceNeg, UInt8.reduceToNat]
      rw [vS_var h8.1]
      refine e_mapUpdate E' [17] (tD M) (nd ns k).a (i64 (vS ns l (nd ns k).a (k + 1))) (by rw [ti65]) key3 rfl rfl rfl rfl rfl ?_
      rw [mset_t]
      simp only [go_sem, Nat.reduceEqDiff, Nat.reduceLT, ↓reduceIte, Nat.reduceAdd, Nat.reduceMul, Nat.reduceLeDiff, Nat.reduceSub, Nat.reduceBEq, Int.reduceEq, Int.reduceLT, Int.reduceLE, Int.reduceToNat, Int.reduceAdd, Int.reduceSub, Int.reduceNeg, UInt8.reduceToNat]
      rw [hQ]
      simp only [go_sem, Nat.reduceEqDiff, Nat.reduceLT, ↓reduceIte, Nat.reduceAdd, Nat.reduceMul, Nat.reduceLeDiff, Nat.reduceSub, Nat.reduceBEq, Int.reduceEq, Int.reduceLT, Int.reduceLE, Int.reduceToNat, Int.reduceAdd, Int.reduceSub, Int.reduceNeg, UInt8.reduceToNat]
      refine ⟨⟨(k + 1, tset M (nd ns k).a (vS ns l (nd ns k).a (k + 1))), by show k + 1 ≤ _; omega, hM.var h8.1 h8.2⟩, by show ns.length - (k + 1) < _; omega, ?_⟩
      rw [w64_in ⟨by omega, by omega⟩]
      exact ⟨rfl, rfl⟩
    · rw [hQ]
      simp only [go_sem, Nat.reduceEqDiff, Nat.reduceLT, ↓reduceIte, Nat.reduceAdd, Nat.reduceMul, Nat.reduceLeDiff, Nat.reduceSub, Nat.reduceBEq, Int.reduceEq, Int.reduceLT, Int.reduceLE, Int.reduceToNat, Int.reduceAdd, Int.reduceSub, Int.reduceNeg, UInt8.reduceToNat]
      have h8 : ¬ ((nd ns k).k = 11 ∧ sd l k ≠ 0) := by simpa using h8
      refine ⟨⟨(k + 1, M), by show k + 1 ≤ _; omega, hM.skip h8⟩, by show ns.length - (k + 1) < _; omega, ?_⟩
      rw [w64_in ⟨by omega, by omega⟩]
      exact ⟨rfl, rfl⟩
  · rw [hQ]
    simp only [go_sem, Nat.reduceEqDiff, Nat.reduceLT, ↓reduceIte, Nat.reduceAdd, Nat.reduceMul, Nat.reduceLeDiff, Nat.reduceSub, Nat.reduceBEq, Int.reduceEq, Int.reduceLT, Int.reduceLE, Int.reduceToNat, Int.reduceAdd, Int.reduceSub, Int.reduceNeg, UInt8.reduceToNat]
    have hk' : k = ns.length := by omega
    subst hk'
    refine e_frM E [17] (mE M) rfl fun clk bs hst => ⟨_, by simp only [go_sem, Nat.reduceEqDiff, Nat.reduceLT, ↓reduceIte, Nat.reduceAdd, Nat.reduceMul, Nat.reduceLeDiff, Nat.reduceSub, Nat.reduceBEq, Int.reduceEq, Int.reduceLT, Int.reduceLE, Int.reduceToNat, Int.reduceAdd, Int.reduceSub, Int.reduceNeg, UInt8.reduceToNat]; rfl, ?_⟩
    simp only [go_sem, Nat.reduceEqDiff, Nat.reduceLT, ↓reduceIte, Nat.reduceAdd, Nat.reduceMul, Nat.reduceLeDiff, Nat.reduceSub, Nat.reduceBEq, Int.reduceEq, Int.reduceLT, Int.reduceLE, Int.reduceToNat, Int.reduceAdd, Int.reduceSub, Int.reduceNeg, UInt8.reduceToNat]
    refine e_rangeM E hst (by rw [ti65]) rfl (by simp only [go_sem, Nat.reduceEqDiff, Nat.reduceLT, ↓reduceIte, Nat.reduceAdd, Nat.reduceMul, Nat.reduceLeDiff, Nat.reduceSub, Nat.reduceBEq, Int.reduceEq, Int.reduceLT, Int.reduceLE, Int.reduceToNat, Int.reduceAdd, Int.reduceSub, Int.reduceNeg, UInt8.reduceToNat]) (by rw [mk_used]; decide) ?_
    simp only [go_sem, Nat.reduceEqDiff, Nat.reduceLT, ↓reduceIte, Nat.reduceAdd, Nat.reduceMul, Nat.reduceLeDiff, Nat.reduceSub, Nat.reduceBEq, Int.reduceEq, Int.reduceLT, Int.reduceLE, Int.reduceToNat, Int.reduceAdd, Int.reduceSub, Int.reduceNeg, UInt8.reduceToNat]
    refine c_thaw E 9 98 (some 2) rfl (by rw [mk_used]; decide) ?_
    simp only [go_sem, Nat.reduceEqDiff, Nat.reduceLT, ↓reduceIte, Nat.reduceAdd, Nat.reduceMul, Nat.reduceLeDiff, Nat.reduceSub, Nat.reduceBEq, Int.reduceEq, Int.reduceLT, Int.reduceLE, Int.reduceToNat, Int.reduceAdd, Int.reduceSub, Int.reduceNeg, UInt8.reduceToNat]
    refine loopT_e E (X := { x : List (Int × Int) × List (Int × Int) × Option (D × D) // (x.1 ++ x.2.1).Perm M }) (fun x => [(9, .vw [98] 0 x.1.1.length), (46, .it [46])])
      (fun x => [([98], .arr (some 2) (x.1.1.map spotD)), ([46], .miter (mpD clk bs (mE M)) x.1.2.2 (mE x.1.2.1))]) [98, 46] (fun x => x.1.2.1.length) ⟨([], M, none), .refl _⟩ id ?_ ?_
    · simp only [go_sem, Nat.reduceEqDiff, Nat.reduceLT, ↓reduceIte, Nat.reduceAdd, Nat.reduceMul, Nat.reduceLeDiff, Nat.reduceSub, Nat.reduceBEq, Int.reduceEq, Int.reduceLT, Int.reduceLE, Int.reduceToNat, Int.reduceAdd, Int.reduceSub, Int.reduceNeg, UInt8.reduceToNat]
      all_goals rfl
    rintro ⟨⟨acc, rem, cur⟩, hperm⟩ E1
    refine hideQ E1 fun Q2 hQ2 E2 => ?_
    simp only at hperm ⊢
    simp only [go_sem, Nat.reduceEqDiff, Nat.reduceLT, ↓reduceIte, Nat.reduceAdd, Nat.reduceMul, Nat.reduceLeDiff, Nat.reduceSub, Nat.reduceBEq, Int.reduceEq, Int.reduceLT, Int.reduceLE, Int.reduceToNat, Int.reduceAdd, Int.reduceSub, Int.reduceNeg, UInt8.reduceToNat]
    have hMl : M.length ≤ 1000 := hM.len h5
    have hal : acc.length + rem.length = M.length := by rw [← List.length_append]; exact hperm.length_eq
    refine e_nextM E2 [46] (mpD clk bs (mE M)) cur (mE rem) rfl rfl (by simp only [go_sem, Nat.reduceEqDiff, Nat.reduceLT, ↓reduceIte, Nat.reduceAdd, Nat.reduceMul, Nat.reduceLeDiff, Nat.reduceSub, Nat.reduceBEq, Int.reduceEq, Int.reduceLT, Int.reduceLE, Int.reduceToNat, Int.reduceAdd, Int.reduceSub, Int.reduceNeg, UInt8.reduceToNat]) ?_ ?_
    · intro l1 y l2 hsp
      obtain ⟨a, q, b, rfl, rfl, rfl, rfl⟩ := mE_split hsp
      simp only [go_sem, Nat.reduceEqDiff, Nat.reduceLT, ↓reduceIte, Nat.reduceAdd, Nat.reduceMul, Nat.reduceLeDiff, Nat.reduceSub, Nat.reduceBEq, Int.reduceEq, Int.reduceLT, Int.reduceLE, Int.reduceToNat, Int.reduceAdd, Int.reduceSub, Int.reduceNeg, UInt8.reduceToNat]
      refine e_entryM E2 [46] (mpD clk bs (mE M)) (i64 q.1, i64 q.2) (mE a ++ mE b) rfl rfl (by simp only [go_sem, Nat.reduceEqDiff, Nat.reduceLT, ↓reduceIte, Nat.reduceAdd, Nat.reduceMul, Nat.reduceLeDiff, Nat.reduceSub, Nat.reduceBEq, Int.reduceEq, Int.reduceLT, Int.reduceLE, Int.reduceToNat, Int.reduceAdd, Int.reduceSub, Int.reduceNeg, UInt8.reduceToNat]) ?_
      simp only [go_sem, Nat.reduceEqDiff, Nat.reduceLT, ↓reduceIte, Nat.reduceAdd, Nat.reduceMul, Nat.reduceLeDiff, Nat.reduceSub, Nat.reduceBEq, Int.reduceEq, Int.reduceLT, Int.reduceLE, Int.reduceToNat, Int.reduceAdd, Int.reduceSub, Int.reduceNeg, UInt8.reduceToNat]
      simp only [List.length_append, List.length_cons] at hal
      refine ⟨by omega, ?_⟩
      have hme : mE a ++ mE b = mE (a ++ b) := by simp [mE, menc, tD]
      rw [hme, hQ2]
      simp only [go_sem, Nat.reduceEqDiff, Nat.reduceLT, ↓reduceIte, Nat.reduceAdd, Nat.reduceMul, Nat.reduceLeDiff, Nat.reduceSub, Nat.reduceBEq, Int.reduceEq, Int.reduceLT, Int.reduceLE, Int.reduceToNat, Int.reduceAdd, Int.reduceSub, Int.reduceNeg, UInt8.reduceToNat]
      refine ⟨⟨(acc ++ [q], a ++ b, some (i64 q.1, i64 q.2)), ?_⟩, ?_, tau [([98], [57])], ?_⟩
      · refine List.Perm.trans ?_ hperm
        rw [List.append_assoc]
        refine List.Perm.append_left acc ?_
        show (q :: (a ++ b)).Perm (a ++ q :: b)
        exact List.perm_middle.symm
      · show (a ++ b).length < (a ++ q :: b).length
        simp only [List.length_append, List.length_cons]
        omega
      · simp only [go_sem, Nat.reduceEqDiff, Nat.reduceLT, ↓reduceIte, Nat.reduceAdd, Nat.reduceMul, Nat.reduceLeDiff, Nat.reduceSub, Nat.reduceBEq, Int.reduceEq, Int.reduceLT, Int.reduceLE, Int.reduceToNat, Int.reduceAdd, Int.reduceSub, Int.reduceNeg, UInt8.reduceToNat]
        simp [spotD]
    · intro hnil
      have hrem : rem = [] := by
        cases rem with
        | nil => rfl
        | cons q r => simp [mE, menc, tD] at hnil
      subst hrem
      simp only [go_sem, Nat.reduceEqDiff, Nat.reduceLT, ↓reduceIte, Nat.reduceAdd, Nat.reduceMul, Nat.reduceLeDiff, Nat.reduceSub, Nat.reduceBEq, Int.reduceEq, Int.reduceLT, Int.reduceLE, Int.reduceToNat, Int.reduceAdd, Int.reduceSub, Int.reduceNeg, UInt8.reduceToNat]
      rw [hQ2]
      simp only [go_sem, Nat.reduceEqDiff, Nat.reduceLT, ↓reduceIte, Nat.reduceAdd, Nat.reduceMul, Nat.reduceLeDiff, Nat.reduceSub, Nat.reduceBEq, Int.reduceEq, Int.reduceLT, Int.reduceLE, Int.reduceToNat, Int.reduceAdd, Int.reduceSub, Int.reduceNeg, UInt8.reduceToNat]
      rw [List.append_nil] at hperm
      have hR := hM.range h5
      refine e_callO E [.vw [98] 0 acc.length, .clo 29 []] [([98], .arr (some 2) (acc.map spotD))] [98] (f28_ok 98 acc (fun q hq => hR q (hperm.mem_iff.1 hq)) (by rw [hperm.length_eq]; omega)) rfl rfl ⟨by simp only [go_sem, Nat.reduceEqDiff, Nat.reduceLT, ↓reduceIte, Nat.reduceAdd, Nat.reduceMul, Nat.reduceLeDiff, Nat.reduceSub, Nat.reduceBEq, Int.reduceEq, Int.reduceLT, Int.reduceLE, Int.reduceToNat, Int.reduceAdd, Int.reduceSub, Int.reduceNeg, UInt8.reduceToNat], by rw [mk_used]; decide⟩ rfl (by simp only [go_sem, Nat.reduceEqDiff, Nat.reduceLT, ↓reduceIte, Nat.reduceAdd, Nat.reduceMul, Nat.reduceLeDiff, Nat.reduceSub, Nat.reduceBEq, Int.reduceEq, Int.reduceLT, Int.reduceLE, Int.reduceToNat, Int.reduceAdd, Int.reduceSub, Int.reduceNeg, UInt8.reduceToNat]) (by simp only [go_sem, Nat.reduceEqDiff, Nat.reduceLT, ↓reduceIte, Nat.reduceAdd, Nat.reduceMul, Nat.reduceLeDiff, Nat.reduceSub, Nat.reduceBEq, Int.reduceEq, Int.reduceLT, Int.reduceLE, Int.reduceToNat, Int.reduceAdd, Int.reduceSub, Int.reduceNeg, UInt8.reduceToNat]) ?_
      rintro _ _ ⟨rfl, l', hp', hs', rfl⟩
      have hsame := hM.same h5 (hp'.trans hperm) hs'
      have hul := hp'.length_eq
      simp only [go_sem, Nat.reduceEqDiff, Nat.reduceLT, ↓reduceIte, Nat.reduceAdd, Nat.reduceMul, Nat.reduceLeDiff, Nat.reduceSub, Nat.reduceBEq, Int.reduceEq, Int.reduceLT, Int.reduceLE, Int.reduceToNat, Int.reduceAdd, Int.reduceSub, Int.reduceNeg, UInt8.reduceToNat]
      refine ⟨by omega, [([98], some 2, l'.map spotD)], ?_⟩
      simp only [go_sem, Nat.reduceEqDiff, Nat.reduceLT, ↓reduceIte, Nat.reduceAdd, Nat.reduceMul, Nat.reduceLeDiff, Nat.reduceSub, Nat.reduceBEq, Int.reduceEq, Int.reduceLT, Int.reduceLE, Int.reduceToNat, Int.reduceAdd, Int.reduceSub, Int.reduceNeg, UInt8.reduceToNat]
      refine .inr ⟨h1, l, ?_, hl⟩
      rw [← hul, take_map_len, hsame]
end Go.Proofs.Ytmplpdjddjiioaa
