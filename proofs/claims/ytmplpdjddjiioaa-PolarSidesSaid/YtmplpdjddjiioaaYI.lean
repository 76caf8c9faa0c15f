/-
  The chapter's variables with their sides.
-/
import Derived.Test.YtmplpdjddjiioaaYH
set_option linter.all false
namespace Go.Proofs.Ytmplpdjddjiioaa
open Go.Ab
theorem opE_max {tf : Nat → TI} (dd : Option Nat) (s : St) (x y : Operand) (t t' : TypeId) : opE tf (.call { callee := .builtin .max, args := #[x, y], argTypes := #[t, t'] }) dd s = (maxR (ev s x) (ev s y)).bind fun x => .ok (x, ef0) := opE_call' rfl
attribute [go_sem] opE_max
section
variable {ns : List TN} {root : Int} {l : List Spot} {b : List Int}
theorem below_spots (hb : Belw ns root b) (hl : Spots ns root l) : ∀ s ∈ l, s.1 ∈ b := by
  have hcb := hb.1.closed (by simp)
  have hroot : root ∈ b := by
    obtain ⟨t, e⟩ := hb.1.first
    rw [e]; exact List.mem_cons_self
  exact (hl.1.map (kb := kidsS ns) (f := id) (ok := fun s => s.1 ∈ b) (fun _ _ _ _ e => e) (fun a ha => ⟨by simp, fun t ht => by
    obtain ⟨j, hj, rfl⟩ := List.mem_map.1 ht
    have hj : j < (kidsL (nd ns a.1.toNat)).length := List.mem_range.1 hj
    refine hcb _ ha _ ?_
    show (kidsL (nd ns a.1.toNat)).getD j 0 ∈ kidsL (nd ns a.1.toNat)
    rw [getD_eq hj]
    exact List.getElem_mem hj⟩) (by simp) (fun a ha => by rw [List.mem_singleton.1 ha]; exact hroot)).2
theorem spots_below (hb : Belw ns root b) (hl : Spots ns root l) : ∀ x ∈ b, (x, 1) ∈ l ∨ (x, 2) ∈ l := by
  refine (hb.1.map (kb := kidsI ns) (f := id) (ok := fun x => (x, 1) ∈ l ∨ (x, 2) ∈ l) (fun _ _ _ _ e => e) (fun x hx => ⟨by simp, fun y hy => ?_⟩) (by simp) (fun a ha => by
    rw [List.mem_singleton.1 ha]
    obtain ⟨t, e⟩ := hl.1.first
    rw [e]
    exact .inl List.mem_cons_self)).2
  obtain ⟨j, hj, rfl⟩ := List.getElem_of_mem hy
  have key : ∀ side : Int, (x, side) ∈ l → ((kidsI ns x)[j], 1) ∈ l ∨ ((kidsI ns x)[j], 2) ∈ l := fun side hs => by
    have hk : kidS (nd ns x.toNat) side j ∈ l := hl.kids _ hs _ (List.mem_map.2 ⟨j, List.mem_range.2 hj, rfl⟩)
    have h1 : (kidS (nd ns x.toNat) side j).1 = (kidsI ns x)[j] := by
      show (kidsI ns x).getD j 0 = _
      rw [getD_eq hj]
    rcases (hl.2.1 _ hk).2 with h2 | h2
    · left; rw [← h1, ← h2]; exact hk
    · right; rw [← h1, ← h2]; exact hk
  exact hx.elim (key 1) (key 2)
theorem vS_any (hb : Belw ns root b) (hl : Spots ns root l) (v : Nat) : b.any (isV ns v) = decide (vS ns l v ns.length ≠ 0) := by
  rw [Bool.eq_iff_iff, decide_eq_true_iff, List.any_eq_true]
  have hv : vS ns l v ns.length ≠ 0 ↔ hasS ns l v 1 ns.length = true ∨ hasS ns l v 2 ns.length = true := by
    unfold vS
    cases hasS ns l v 1 ns.length <;> cases hasS ns l v 2 ns.length <;> simp
  have hh : ∀ s : Int, hasS ns l v s ns.length = true ↔ ∃ i, i < ns.length ∧ ((nd ns i).k = 11 ∧ (nd ns i).a = v) ∧ ((i : Int), s) ∈ l := fun s => by
    simp [hasS, List.any_eq_true]
  rw [hv, hh, hh]
  constructor
  · rintro ⟨x, hx, h⟩
    simp only [isV, Bool.and_eq_true, decide_eq_true_eq] at h
    have hok := hb.2.1 x hx
    have e : ((x.toNat : Nat) : Int) = x := by have := hok.1; omega
    have hlt : x.toNat < ns.length := by have := hok.2; omega
    rcases spots_below hb hl x hx with g | g
    · exact .inl ⟨x.toNat, hlt, h, by rw [e]; exact g⟩
    · exact .inr ⟨x.toNat, hlt, h, by rw [e]; exact g⟩
  · have key : ∀ (s : Int) (i : Nat), ((nd ns i).k = 11 ∧ (nd ns i).a = v) → ((i : Int), s) ∈ l → ∃ x ∈ b, isV ns v x = true := fun s i h g => ⟨_, below_spots hb hl _ g, by simp [isV, h]⟩
    rintro (⟨i, _, h, g⟩ | ⟨i, _, h, g⟩)
    · exact key 1 i h g
    · exact key 2 i h g
end
def useN (ns : List TN) (l : List Spot) : List Nat := (List.range 1000).filter fun v => decide (vS ns l v ns.length ≠ 0)
theorem useN_usesL (ns : List TN) (l : List Spot) : ((useN ns l).map fun (v : Nat) => ((v : Int), vS ns l v ns.length)) = usesL ns l := by
  unfold useN usesL
  rw [List.filter_map]
  rfl
theorem useN_len (ns : List TN) (l : List Spot) : (useN ns l).length ≤ 1000 := by
  exact Nat.le_trans (List.length_filter_le _ _) (by rw [List.length_range]; exact Nat.le_refl _)
theorem f30_fn {G} (ns : List TN) (root : Int) (hs : Sane ns) (hm : mayZ ns root = 0) {l : List Spot} (hl : Spots ns root l) : HP Try.prog G 30 [typeS ns root] (fun r => r = .d (intsD ((useN ns l).map fun (v : Nat) => (v : Int)))) :=
  hp_mono (f30_ok ns root hs hm) fun r hr => by
    obtain ⟨b, rfl, hb⟩ := hr
    have : varN ns b 1000 = useN ns l := by
      unfold varN useN
      simp only [vS_any hb hl]
    rw [this]
theorem mix_var {ns : List TN} {l : List Spot} {k : Nat} {v : Int} (h : (nd ns k).k = 11) (hv : (nd ns k).a = v) : mixZ (vS ns l v k) (sd l k) = vS ns l v (k + 1) := by
  subst hv
  have := mix_tab (hasS ns l (nd ns k).a 1 k) (hasS ns l (nd ns k).a 2 k) (decide (((k : Int), (1 : Int)) ∈ l)) (decide (((k : Int), (2 : Int)) ∈ l))
  simp only [mixZ, vS, hasS_succ, h, decide_true, Bool.true_and, sd, decide_eq_true_eq] at this ⊢
  exact this
set_option maxHeartbeats 1000000 in
theorem f18_ok {G} (ns : List TN) (root : Int) (hs : Sane ns) (hm : mayZ ns root = 0) {l : List Spot} (hl : Spots ns root l) : HP Try.prog G 18 [typeS ns root] (fun r => r = .d (.sl (some 2) ((usesL ns l).map spotD))) := by
  obtain ⟨⟨h2, h3⟩, h4, h5, h6⟩ := may_ok hm
  have c19 := f19_ok (G := G) ns root h3 (fun n hn => (hs.2 n hn).1) (rights_kids h5) h4 hl
  have c30 := f30_fn (G := G) ns root hs hm hl
  rw [← useN_usesL]
  have hul := useN_len ns l
  obtain ⟨VS, hVS⟩ : ∃ VS, VS = useN ns l := ⟨_, rfl⟩
  rw [← hVS] at c30 hul ⊢
  clear hVS
  refine funZ_ok Try.func18 rfl (by decide +kernel) (by simp [Try.ntmps18]) (veil fun E => ?_)
  unfold typeS at c19 c30 ⊢
  simp only [go_sem, Nat.reduceEqDiff, Nat.reduceLT, ↓reduceIte, Nat.reduceAdd, Nat.reduceMul, Nat.reduceLeDiff, Nat.reduceSub, Nat.reduceBEq, Int.reduceEq, Int.reduceLT, Int.reduceLE, Int.reduceToNat, Int.reduceAdd, Int.reduceSub, Int.reduceNeg, UInt8.reduceToNat]
  refine region_xv mixed E fun X => ?_
  simp only [go_sem, Nat.reduceEqDiff, Nat.reduceLT, ↓reduceIte, Nat.reduceAdd, Nat.reduceMul, Nat.reduceLeDiff, Nat.reduceSub, Nat.reduceBEq, Int.reduceEq, Int.reduceLT, Int.reduceLE, Int.reduceToNat, Int.reduceAdd, Int.reduceSub, Int.reduceNeg, UInt8.reduceToNat]
  refine x_call X c19 rfl rfl (by simp) ?_
  simp only [go_sem, Nat.reduceEqDiff, Nat.reduceLT, ↓reduceIte, Nat.reduceAdd, Nat.reduceMul, Nat.reduceLeDiff, Nat.reduceSub, Nat.reduceBEq, Int.reduceEq, Int.reduceLT, Int.reduceLE, Int.reduceToNat, Int.reduceAdd, Int.reduceSub, Int.reduceNeg, UInt8.reduceToNat]
  refine x_call X c30 rfl rfl (by simp) ?_
  simp only [go_sem, Nat.reduceEqDiff, Nat.reduceLT, ↓reduceIte, Nat.reduceAdd, Nat.reduceMul, Nat.reduceLeDiff, Nat.reduceSub, Nat.reduceBEq, Int.reduceEq, Int.reduceLT, Int.reduceLE, Int.reduceToNat, Int.reduceAdd, Int.reduceSub, Int.reduceNeg, UInt8.reduceToNat]
  refine ⟨by decide +kernel, ?_⟩
  refine c_frB E [1] (.agg [.sl (some 4) (ns.map nodeD), i64 root]) rfl rfl ?_
  unfold intsD
  simp only [go_sem, Nat.reduceEqDiff, Nat.reduceLT, ↓reduceIte, Nat.reduceAdd, Nat.reduceMul, Nat.reduceLeDiff, Nat.reduceSub, Nat.reduceBEq, Int.reduceEq, Int.reduceLT, Int.reduceLE, Int.reduceToNat, Int.reduceAdd, Int.reduceSub, Int.reduceNeg, UInt8.reduceToNat]
  refine loopT_e E (X := { q : Nat // q ≤ VS.length }) (fun x => [(1, .d (.ptr (.agg [.sl (some 4) (ns.map nodeD), i64 root]))), (3, .d (.sl none ((sdL ns.length l).map i64))), (4, .d (.sl none ((VS.map fun (v : Nat) => (v : Int)).map i64))), (5, .vw [99] 0 x.1), (6, .d (i64 x.1))])
    (fun x => [([99], .arr (some 2) ((VS.take x.1).map fun (v : Nat) => spotD ((v : Int), vS ns l v ns.length)))]) [99] (fun x => VS.length - x.1) ⟨0, Nat.zero_le _⟩ (tau [([99], [13])]) ?_ ?_
  · simp only [go_sem, Nat.reduceEqDiff, Nat.reduceLT, ↓reduceIte, Nat.reduceAdd, Nat.reduceMul, Nat.reduceLeDiff, Nat.reduceSub, Nat.reduceBEq, Int.reduceEq, Int.reduceLT, Int.reduceLE, Int.reduceToNat, Int.reduceAdd, Int.reduceSub, Int.reduceNeg, UInt8.reduceToNat]
    all_goals rfl
  rintro ⟨q, hq⟩ E0
  refine hideQ E0 fun Q' hQ E' => ?_
  simp only at hq ⊢
  simp only [go_sem, Nat.reduceEqDiff, Nat.reduceLT, ↓reduceIte, Nat.reduceAdd, Nat.reduceMul, Nat.reduceLeDiff, Nat.reduceSub, Nat.reduceBEq, Int.reduceEq, Int.reduceLT, Int.reduceLE, Int.reduceToNat, Int.reduceAdd, Int.reduceSub, Int.reduceNeg, UInt8.reduceToNat]
  refine e_ifd E' (fun h1 => ?_) (fun h1 => ?_) <;> simp only [go_sem, Nat.reduceEqDiff, Nat.reduceLT, ↓reduceIte, Nat.reduceAdd, Nat.reduceMul, Nat.reduceLeDiff, Nat.reduceSub, Nat.reduceBEq, Int.reduceEq, Int.reduceLT, Int.reduceLE, Int.reduceToNat, Int.reduceAdd, Int.reduceSub, Int.reduceNeg, UInt8.reduceToNat]
  · have hq' : q < VS.length := by omega
    obtain ⟨v, hv⟩ : ∃ v, v = VS[q] := ⟨_, rfl⟩
    refine ⟨⟨by omega, by omega⟩, ?_⟩
    have hx : (List.map i64 (List.map (fun (v : Nat) => (v : Int)) VS)).getD q .nilp = i64 v := by simp [hq', hv]
    rw [hx]
    simp only [go_sem, Nat.reduceEqDiff, Nat.reduceLT, ↓reduceIte, Nat.reduceAdd, Nat.reduceMul, Nat.reduceLeDiff, Nat.reduceSub, Nat.reduceBEq, Int.reduceEq, Int.reduceLT, Int.reduceLE, Int.reduceToNat, Int.reduceAdd, Int.reduceSub, Int.reduceNeg, UInt8.reduceToNat]
    refine loopO_e E' (X := { j : Nat // j ≤ ns.length }) (fun y => [(1, .d (.ptr (.agg [.sl (some 4) (ns.map nodeD), i64 root]))), (3, .d (.sl none ((sdL ns.length l).map i64))), (4, .d (.sl none ((VS.map fun (v : Nat) => (v : Int)).map i64))), (5, .vw [99] 0 q), (6, .d (i64 q)), (7, .bx [7] 0), (8, .d (i64 y.1))])
      (fun y => [([99], .arr (some 2) ((VS.take q).map fun (v : Nat) => spotD ((v : Int), vS ns l v ns.length))), ([7], .box [.d (i64 v), .d (i64 (vS ns l v y.1))])]) [99, 7] (fun y => ns.length - y.1) ⟨0, Nat.zero_le _⟩ ?_ ?_
    · simp only [go_sem, Nat.reduceEqDiff, Nat.reduceLT, ↓reduceIte, Nat.reduceAdd, Nat.reduceMul, Nat.reduceLeDiff, Nat.reduceSub, Nat.reduceBEq, Int.reduceEq, Int.reduceLT, Int.reduceLE, Int.reduceToNat, Int.reduceAdd, Int.reduceSub, Int.reduceNeg, UInt8.reduceToNat]
      all_goals rfl
    rintro ⟨j, hj⟩ E1
    refine hideQ E1 fun Q1 hQ1 E2 => ?_
    simp only at hj ⊢
    simp only [go_sem, Nat.reduceEqDiff, Nat.reduceLT, ↓reduceIte, Nat.reduceAdd, Nat.reduceMul, Nat.reduceLeDiff, Nat.reduceSub, Nat.reduceBEq, Int.reduceEq, Int.reduceLT, Int.reduceLE, Int.reduceToNat, Int.reduceAdd, Int.reduceSub, Int.reduceNeg, UInt8.reduceToNat]
    refine e_ifd E2 (fun h2 => ?_) (fun h2 => ?_) <;> simp only [go_sem, Nat.reduceEqDiff, Nat.reduceLT, ↓reduceIte, Nat.reduceAdd, Nat.reduceMul, Nat.reduceLeDiff, Nat.reduceSub, Nat.reduceBEq, Int.reduceEq, Int.reduceLT, Int.reduceLE, Int.reduceToNat, Int.reduceAdd, Int.reduceSub, Int.reduceNeg, UInt8.reduceToNat]
    · have hi' : j < ns.length := by omega
      refine region_qv mixed (by decide +kernel) E2 fun E3 => ?_
      simp only [go_sem, Nat.reduceEqDiff, Nat.reduceLT, ↓reduceIte, Nat.reduceAdd, Nat.reduceMul, Nat.reduceLeDiff, Nat.reduceSub, Nat.reduceBEq, Int.reduceEq, Int.reduceLT, Int.reduceLE, Int.reduceToNat, Int.reduceAdd, Int.reduceSub, Int.reduceNeg, UInt8.reduceToNat]
      refine ⟨⟨by omega, by omega⟩, ?_⟩
      rw [nodes_nd hi']
      simp only [go_sem, Nat.reduceEqDiff, Nat.reduceLT, ↓reduceIte, Nat.reduceAdd, Nat.reduceMul, Nat.reduceLeDiff, Nat.reduceSub, Nat.reduceBEq, Int.reduceEq, Int.reduceLT, Int.reduceLE, Int.reduceToNat, Int.reduceAdd, Int.reduceSub, Int.reduceNeg, UInt8.reduceToNat]
      refine q_gifd E3 (fun h3 => ?_) (fun h3 => ?_) <;> simp only [go_sem, Nat.reduceEqDiff, Nat.reduceLT, ↓reduceIte, Nat.reduceAdd, Nat.reduceMul, Nat.reduceLeDiff, Nat.reduceSub, Nat.reduceBEq, Int.reduceEq, Int.reduceLT, Int.reduceLE, Int.reduceToNat, Int.reduceAdd, Int.reduceSub, Int.reduceNeg, UInt8.reduceToNat]
      · refine ⟨⟨by omega, by omega⟩, ?_⟩
        rw [nodes_nd hi']
        simp only [go_sem, Nat.reduceEqDiff, Nat.reduceLT, ↓reduceIte, Nat.reduceAdd, Nat.reduceMul, Nat.reduceLeDiff, Nat.reduceSub, Nat.reduceBEq, Int.reduceEq, Int.reduceLT, Int.reduceLE, Int.reduceToNat, Int.reduceAdd, Int.reduceSub, Int.reduceNeg, UInt8.reduceToNat]
        refine ⟨⟨by omega, by omega⟩, ?_⟩
        rw [hx]
        simp only [go_sem, Nat.reduceEqDiff, Nat.reduceLT, ↓reduceIte, Nat.reduceAdd, Nat.reduceMul, Nat.reduceLeDiff, Nat.reduceSub, Nat.reduceBEq, Int.reduceEq, Int.reduceLT, Int.reduceLE, Int.reduceToNat, Int.reduceAdd, Int.reduceSub, Int.reduceNeg, UInt8.reduceToNat]
        refine e_ifd E2 (fun h5 => ?_) (fun h5 => ?_) <;> simp only [go_sem, Nat.reduceEqDiff, Nat.reduceLT, ↓reduceIte, Nat.reduceAdd, Nat.reduceMul, Nat.reduceLeDiff, Nat.reduceSub, Nat.reduceBEq, Int.reduceEq, Int.reduceLT, Int.reduceLE, Int.reduceToNat, Int.reduceAdd, Int.reduceSub, Int.reduceNeg, UInt8.reduceToNat]
        · refine region_xv mixed E2 fun X => ?_
          simp only [go_sem, Nat.reduceEqDiff, Nat.reduceLT, ↓reduceIte, Nat.reduceAdd, Nat.reduceMul, Nat.reduceLeDiff, Nat.reduceSub, Nat.reduceBEq, Int.reduceEq, Int.reduceLT, Int.reduceLE, Int.reduceToNat, Int.reduceAdd, Int.reduceSub, Int.reduceNeg, UInt8.reduceToNat]
          have hsl : (sdL ns.length l).length = ns.length := sdL_len _ _
          refine ⟨⟨by omega, by omega⟩, ?_⟩
          rw [sdL_get' hi']
          simp only [go_sem, Nat.reduceEqDiff, Nat.reduceLT, ↓reduceIte, Nat.reduceAdd, Nat.reduceMul, Nat.reduceLeDiff, Nat.reduceSub, Nat.reduceBEq, Int.reduceEq, Int.reduceLT, Int.reduceLE, Int.reduceToNat, Int.reduceAdd, Int.reduceSub, Int.reduceNeg, UInt8.reduceToNat]
          refine ⟨⟨by omega, by omega⟩, ?_⟩
          rw [sdL_get' hi']
          simp only [go_sem, Nat.reduceEqDiff, Nat.reduceLT, ↓reduceIte, Nat.reduceAdd, Nat.reduceMul, Nat.reduceLeDiff, Nat.reduceSub, Nat.reduceBEq, Int.reduceEq, Int.reduceLT, Int.reduceLE, Int.reduceToNat, Int.reduceAdd, Int.reduceSub, Int.reduceNeg, UInt8.reduceToNat]
          refine ⟨by decide +kernel, ?_⟩
          rw [mix64 (vS_range ns l v j) (sd_range l j), mix_var h3 h5]
          rw [hQ1]
          simp only [go_sem, Nat.reduceEqDiff, Nat.reduceLT, ↓reduceIte, Nat.reduceAdd, Nat.reduceMul, Nat.reduceLeDiff, Nat.reduceSub, Nat.reduceBEq, Int.reduceEq, Int.reduceLT, Int.reduceLE, Int.reduceToNat, Int.reduceAdd, Int.reduceSub, Int.reduceNeg, UInt8.reduceToNat]
          refine ⟨⟨j + 1, by omega⟩, by show ns.length - (j + 1) < _; omega, ?_⟩
          rw [w64_in ⟨by omega, by omega⟩]
          exact ⟨rfl, rfl⟩
        · rw [hQ1]
          simp only [go_sem, Nat.reduceEqDiff, Nat.reduceLT, ↓reduceIte, Nat.reduceAdd, Nat.reduceMul, Nat.reduceLeDiff, Nat.reduceSub, Nat.reduceBEq, Int.reduceEq, Int.reduceLT, Int.reduceLE, Int.reduceToNat, Int.reduceAdd, Int.reduceSub, Int.reduceNeg, UInt8.reduceToNat]
          refine ⟨⟨j + 1, by omega⟩, by show ns.length - (j + 1) < _; omega, ?_⟩
          rw [vS_other (fun g => h5 g.2), w64_in ⟨by omega, by omega⟩]
          exact ⟨rfl, rfl⟩
      · rw [hQ1]
        simp only [go_sem, Nat.reduceEqDiff, Nat.reduceLT, ↓reduceIte, Nat.reduceAdd, Nat.reduceMul, Nat.reduceLeDiff, Nat.reduceSub, Nat.reduceBEq, Int.reduceEq, Int.reduceLT, Int.reduceLE, Int.reduceToNat, Int.reduceAdd, Int.reduceSub, Int.reduceNeg, UInt8.reduceToNat]
        refine ⟨⟨j + 1, by omega⟩, by show ns.length - (j + 1) < _; omega, ?_⟩
        rw [vS_other (fun g => h3 g.1), w64_in ⟨by omega, by omega⟩]
        exact ⟨rfl, rfl⟩
    · obtain rfl : j = ns.length := by omega
      rw [hQ1]
      simp only [go_sem, Nat.reduceEqDiff, Nat.reduceLT, ↓reduceIte, Nat.reduceAdd, Nat.reduceMul, Nat.reduceLeDiff, Nat.reduceSub, Nat.reduceBEq, Int.reduceEq, Int.reduceLT, Int.reduceLE, Int.reduceToNat, Int.reduceAdd, Int.reduceSub, Int.reduceNeg, UInt8.reduceToNat]
      refine ⟨by omega, ?_⟩
      rw [hQ]
      simp only [go_sem, Nat.reduceEqDiff, Nat.reduceLT, ↓reduceIte, Nat.reduceAdd, Nat.reduceMul, Nat.reduceLeDiff, Nat.reduceSub, Nat.reduceBEq, Int.reduceEq, Int.reduceLT, Int.reduceLE, Int.reduceToNat, Int.reduceAdd, Int.reduceSub, Int.reduceNeg, UInt8.reduceToNat]
      refine ⟨⟨q + 1, by omega⟩, by show VS.length - (q + 1) < _; omega, tau [([99], [76])], ?_⟩
      rw [w64_in ⟨by omega, by omega⟩]
      simp only [go_sem, Nat.reduceEqDiff, Nat.reduceLT, ↓reduceIte, Nat.reduceAdd, Nat.reduceMul, Nat.reduceLeDiff, Nat.reduceSub, Nat.reduceBEq, Int.reduceEq, Int.reduceLT, Int.reduceLE, Int.reduceToNat, Int.reduceAdd, Int.reduceSub, Int.reduceNeg, UInt8.reduceToNat]
      refine ⟨rfl, ?_⟩
      rw [List.take_of_length_le (by simp; omega), List.take_succ_eq_append_getElem hq', List.map_append, ← hv]
      rfl
  · obtain rfl : q = VS.length := by omega
    rw [hQ]
    simp only [go_sem, Nat.reduceEqDiff, Nat.reduceLT, ↓reduceIte, Nat.reduceAdd, Nat.reduceMul, Nat.reduceLeDiff, Nat.reduceSub, Nat.reduceBEq, Int.reduceEq, Int.reduceLT, Int.reduceLE, Int.reduceToNat, Int.reduceAdd, Int.reduceSub, Int.reduceNeg, UInt8.reduceToNat]
    refine ⟨[([99], some 2, VS.map fun (v : Nat) => spotD ((v : Int), vS ns l v ns.length))], ?_⟩
    simp only [go_sem, Nat.reduceEqDiff, Nat.reduceLT, ↓reduceIte, Nat.reduceAdd, Nat.reduceMul, Nat.reduceLeDiff, Nat.reduceSub, Nat.reduceBEq, Int.reduceEq, Int.reduceLT, Int.reduceLE, Int.reduceToNat, Int.reduceAdd, Int.reduceSub, Int.reduceNeg, UInt8.reduceToNat]
    rw [List.map_map]
    rfl
end Go.Proofs.Ytmplpdjddjiioaa
