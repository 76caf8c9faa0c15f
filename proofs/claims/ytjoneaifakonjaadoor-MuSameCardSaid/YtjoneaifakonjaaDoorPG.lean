/-
  All nodes; a type's text.
-/
import Derived.Test.YtjoneaifakonjaaDoorPF
set_option linter.all false
namespace Go.Proofs.YtjoneaifakonjaaDoor
open Go.Ab
theorem path_len {ns : List TN} {path : List Int} (hn : path.Nodup) (ho : ∀ y ∈ path, okI ns y) : path.length ≤ ns.length := by
  have := nodup_sub hn (fun a ha => univI_mem (ho a ha))
  rwa [univI_len] at this
theorem good_node {ns : List TN} (m : Nat) (path : List Int) (i : Int) (st : PSt) (hrec : i ∉ path → ∀ j st, okI ns j → VI ns st.1 → Good ns st (nodeS ns m (path ++ [i]) j st)) (hv : VI ns st.1) (hn : NOk ns (nd ns i.toNat)) : Good ns st (nodeS ns (m + 1) path i st) := by
  rw [nodeS]
  by_cases hm : i ∈ path
  · rw [if_pos hm]
    have h := good_made hv st.2 (nameT (path.idxOf i)) 4 [] st (fun h => h)
    refine ⟨h.1, h.2.1, fun e => h.2.2.1 ?_, h.2.2.2⟩
    simpa using e
  · rw [if_neg hm]
    by_cases hl : st.2 = true
    · rw [if_pos hl]
      exact ⟨by simp, hv, fun _ => hl, fun h => h⟩
    · rw [if_neg hl]
      have h := good_head (hrec hm) (nd ns i.toNat) st hn hv
      simp only
      split
      · have h2 := good_made h.2.1 (headS (nodeS ns m (path ++ [i])) (nd ns i.toNat) st).2.2 (((([109, 117, 32] ++ nameT path.length) ++ [46, 32])) ++ (headS (nodeS ns m (path ++ [i])) (nd ns i.toNat) st).1.s) 0 (nmL (headS (nodeS ns m (path ++ [i])) (nd ns i.toNat) st).1.nm) st h.2.2.2
        refine ⟨h2.1, h2.2.1, fun e => h2.2.2.1 ?_, h2.2.2.2⟩
        simpa using e
      · exact h
theorem node_rc {G} {ns : List TN} (root : Int) (hN : ns.length ≤ 16) (hno : ∀ x, x < ns.length → NOk ns (nd ns x)) : ∀ (m : Nat) (path : List Int), path.Nodup → (∀ y ∈ path, okI ns y) → ns.length < m + path.length → RC G ns root path (nodeS ns m path) := by
  intro m
  induction m with
  | zero =>
    intro path hn ho hl
    have := path_len hn ho
    omega
  | succ m ih =>
    intro path hn ho hl
    have hpl := path_len hn ho
    have hnx : ∀ i, okI ns i → NOk ns (nd ns i.toNat) := fun i hi => hno _ (by have := hi.1; have := hi.2; omega)
    have hnext : ∀ i, okI ns i → i ∉ path → RC G ns root (path ++ [i]) (nodeS ns m (path ++ [i])) := fun i hi hm => by
      refine ih (path ++ [i]) ?_ ?_ ?_
      · rw [List.nodup_append]
        exact ⟨hn, by simp, fun x hx y hy => by rw [List.mem_singleton.1 hy]; exact fun e => hm (e ▸ hx)⟩
      · intro y hy
        rcases List.mem_append.1 hy with hy | hy
        · exact ho y hy
        · rw [List.mem_singleton.1 hy]; exact hi
      · simp only [List.length_append, List.length_singleton]; omega
    refine ⟨fun i st hi hv => good_node m path i st (fun hm => (hnext i hi hm).ok) hv (hnx i hi), fun i st rest hi hv => NR.fz ?_⟩
    by_cases hm : i ∈ path
    · exact f10_in ns root m path i st rest (by omega) hm
    · obtain ⟨v, lg⟩ := st
      cases lg with
      | true => exact f10_long ns root m path i v rest (by omega) hm
      | false => exact f10_go ns root m path i v rest hN (by omega) hm hi hv (hnx i hi) (hnext i hi hm)
theorem rights_nok {ns : List TN} (h : rightsB ns = true) : ∀ x, x < ns.length → NOk ns (nd ns x) := by
  intro x hx
  have h1 := rights_nd h hx
  have hk := (rights_kids h x hx).1
  refine ⟨fun hp => ?_, fun hw => ?_, ?_⟩
  · have e : kidsL (nd ns x) = [(nd ns x).a, (nd ns x).b] := by simp [kidsL, hp]
    rw [e] at hk
    exact ⟨hk _ (by simp), hk _ (by simp)⟩
  · have hp : pairZ (nd ns x).k = false := by
      simp only [wideZ, Bool.or_eq_true, decide_eq_true_eq] at hw
      simp only [pairZ, Bool.or_eq_false_iff, decide_eq_false_iff_not]
      omega
    have e : kidsL (nd ns x) = (nd ns x).l.map (·.2) := by simp [kidsL, hp, hw]
    rw [e] at hk
    refine ⟨fun f hf => hk _ (List.mem_map_of_mem hf), fun f hf => ?_, right_wide h1⟩
    have hnm : namesB (nd ns x).k (nd ns x).l = true := by
      unfold rightB at h1
      simp only [Bool.and_eq_true, Bool.not_eq_true', Bool.or_eq_false_iff, Bool.not_eq_false'] at h1
      simp_all
    obtain ⟨i, hi, rfl⟩ := List.getElem_of_mem hf
    have h2 := List.all_eq_true.1 hnm i (List.mem_range.2 hi)
    simp only [Bool.and_eq_true, Bool.not_eq_true'] at h2
    have h3 := h2.1
    have e3 : fnm (nd ns x).l i = (nd ns x).l[i].1 := by simp [fnm, hi]
    rw [e3] at h3
    simp only [badN, Bool.or_eq_false_iff, Bool.and_eq_false_iff, decide_eq_false_iff_not, Bool.not_eq_false'] at h3
    simp only [wideZ, Bool.or_eq_true, decide_eq_true_eq] at hw
    have hwh : wholeB (nd ns x).l[i].1 = true := by
      rcases hw with hw | hw
      · have := h3.1.resolve_left (fun h => h hw)
        simp only [nameB, Bool.and_eq_true] at this
        exact this.1.1
      · have := h3.2.resolve_left (fun h => h hw)
        simp only [tagB, Bool.and_eq_true] at this
        exact this.1
    simp only [wholeB, Bool.and_eq_true, decide_eq_true_eq] at hwh
    exact hwh.1.2
  · refine List.mem_map.2 ⟨nd ns x, ?_, rfl⟩
    rw [nd_eq hx]; exact List.getElem_mem hx
noncomputable def printS (ns : List TN) (root : Int) : List UInt8 × Int :=
  if mayZ ns root = 0 then
    (if (nodeS ns 100 [] root ([], false)).2.2 = true then ([], 7) else ((nodeS ns 100 [] root ([], false)).1.s, 0))
  else ([], mayZ ns root)
theorem f7_ok {G} (ns : List TN) (root : Int) (hs : Sane ns) (hN : ns.length ≤ 16 ∨ 2000 < ns.length) : HP Tryd.prog G 7 [typeS ns root] (fun r => r = .tup [.d (.str (printS ns root).1), .d (i64 (printS ns root).2)]) := by
  unfold typeS
  refine funZ_ok Tryd.func7 rfl (by decide +kernel) (by simp [Tryd.ntmps7]) (veil fun E => ?_)
  simp only [go_sem, Nat.reduceEqDiff, Nat.reduceLT, ↓reduceIte, Nat.reduceAdd, Nat.reduceMul, Nat.reduceLeDiff, Nat.reduceSub, Nat.reduceBEq, Int.reduceEq, Int.reduceLT, Int.reduceLE, Int.reduceToNat, Int.reduceAdd, Int.reduceSub, Int.reduceNeg, UInt8.reduceToNat]
  refine e_call E (f8_ok ns root hs) rfl rfl (by simp) ?_
  rintro _ rfl
  simp only [go_sem, Nat.reduceEqDiff, Nat.reduceLT, ↓reduceIte, Nat.reduceAdd, Nat.reduceMul, Nat.reduceLeDiff, Nat.reduceSub, Nat.reduceBEq, Int.reduceEq, Int.reduceLT, Int.reduceLE, Int.reduceToNat, Int.reduceAdd, Int.reduceSub, Int.reduceNeg, UInt8.reduceToNat]
  refine e_ifd E (fun h1 => ?_) (fun h1 => ?_) <;> simp only [go_sem, Nat.reduceEqDiff, Nat.reduceLT, ↓reduceIte, Nat.reduceAdd, Nat.reduceMul, Nat.reduceLeDiff, Nat.reduceSub, Nat.reduceBEq, Int.reduceEq, Int.reduceLT, Int.reduceLE, Int.reduceToNat, Int.reduceAdd, Int.reduceSub, Int.reduceNeg, UInt8.reduceToNat]
  · refine ⟨[], ?_⟩
    simp only [go_sem, Nat.reduceEqDiff, Nat.reduceLT, ↓reduceIte, Nat.reduceAdd, Nat.reduceMul, Nat.reduceLeDiff, Nat.reduceSub, Nat.reduceBEq, Int.reduceEq, Int.reduceLT, Int.reduceLE, Int.reduceToNat, Int.reduceAdd, Int.reduceSub, Int.reduceNeg, UInt8.reduceToNat]
    simp [printS, h1]
  · have hm : mayZ ns root = 0 := by simpa using h1
    obtain ⟨⟨h2, h3⟩, h4, h5, h6⟩ := may_ok hm
    have hrc := node_rc (G := G) root (by omega) (rights_nok h5) 100 [] (by simp) (by simp) (by simp; omega)
    have hv0 : VI ns [] := ⟨by simp, by simp, by simp⟩
    have hc := hrc.call root ([], false) [] h4 hv0
    have hg := hrc.ok root ([], false) h4 hv0
    have hpS : printS ns root = if (nodeS ns 100 [] root ([], false)).2.2 = true then ([], 7) else ((nodeS ns 100 [] root ([], false)).1.s, 0) := by rw [printS, if_pos hm]
    generalize nodeS ns 100 [] root ([], false) = R at hc hg hpS
    refine e_makeMap E (by simp only [go_sem, Nat.reduceEqDiff, Nat.reduceLT, ↓reduceIte, Nat.reduceAdd, Nat.reduceMul, Nat.reduceLeDiff, Nat.reduceSub, Nat.reduceBEq, Int.reduceEq, Int.reduceLT, Int.reduceLE, Int.reduceToNat, Int.reduceAdd, Int.reduceSub, Int.reduceNeg, UInt8.reduceToNat]) (by rw [mk_used]; decide) ?_
    simp only [go_sem, Nat.reduceEqDiff, Nat.reduceLT, ↓reduceIte, Nat.reduceAdd, Nat.reduceMul, Nat.reduceLeDiff, Nat.reduceSub, Nat.reduceBEq, Int.reduceEq, Int.reduceLT, Int.reduceLE, Int.reduceToNat, Int.reduceAdd, Int.reduceSub, Int.reduceNeg, UInt8.reduceToNat]
    refine e_thawB E [15] 3 99 none [.d (.sl (some 4) (ns.map nodeD)), .d (i64 root), .mp [13], .d .nils, .d (.bool false)] rfl rfl (by rw [mk_used]; decide) (by simp only [go_sem, Nat.reduceEqDiff, Nat.reduceLT, ↓reduceIte, Nat.reduceAdd, Nat.reduceMul, Nat.reduceLeDiff, Nat.reduceSub, Nat.reduceBEq, Int.reduceEq, Int.reduceLT, Int.reduceLE, Int.reduceToNat, Int.reduceAdd, Int.reduceSub, Int.reduceNeg, UInt8.reduceToNat]; rfl) ?_
    simp only [go_sem, Nat.reduceEqDiff, Nat.reduceLT, ↓reduceIte, Nat.reduceAdd, Nat.reduceMul, Nat.reduceLeDiff, Nat.reduceSub, Nat.reduceBEq, Int.reduceEq, Int.reduceLT, Int.reduceLE, Int.reduceToNat, Int.reduceAdd, Int.reduceSub, Int.reduceNeg, UInt8.reduceToNat]
    refine e_callS E (tau [([100], [15]), ([101], [13]), ([102], [99])]) [.bx [100] 0, .d (i64 root)] (PO [102] ns root [] [] [] false) PU hc rfl (by simp only [go_sem, Nat.reduceEqDiff, Nat.reduceLT, ↓reduceIte, Nat.reduceAdd, Nat.reduceMul, Nat.reduceLeDiff, Nat.reduceSub, Nat.reduceBEq, Int.reduceEq, Int.reduceLT, Int.reduceLE, Int.reduceToNat, Int.reduceAdd, Int.reduceSub, Int.reduceNeg, UInt8.reduceToNat]) ⟨by simp only [go_sem, Nat.reduceEqDiff, Nat.reduceLT, ↓reduceIte, Nat.reduceAdd, Nat.reduceMul, Nat.reduceLeDiff, Nat.reduceSub, Nat.reduceBEq, Int.reduceEq, Int.reduceLT, Int.reduceLE, Int.reduceToNat, Int.reduceAdd, Int.reduceSub, Int.reduceNeg, UInt8.reduceToNat], by rw [mk_used]; decide⟩ rfl (by unfold PO PU; simp only [go_sem, Nat.reduceEqDiff, Nat.reduceLT, ↓reduceIte, Nat.reduceAdd, Nat.reduceMul, Nat.reduceLeDiff, Nat.reduceSub, Nat.reduceBEq, Int.reduceEq, Int.reduceLT, Int.reduceLE, Int.reduceToNat, Int.reduceAdd, Int.reduceSub, Int.reduceNeg, UInt8.reduceToNat]; rfl) (by unfold PO; simp only [go_sem, Nat.reduceEqDiff, Nat.reduceLT, ↓reduceIte, Nat.reduceAdd, Nat.reduceMul, Nat.reduceLeDiff, Nat.reduceSub, Nat.reduceBEq, Int.reduceEq, Int.reduceLT, Int.reduceLE, Int.reduceToNat, Int.reduceAdd, Int.reduceSub, Int.reduceNeg, UInt8.reduceToNat]) ?_
    obtain ⟨⟨rs, rt, rn⟩, rv, rl⟩ := R
    rintro _ hp' ⟨d, rest, rfl, hd, rfl⟩
    unfold PO pcD
    simp only [go_sem, Nat.reduceEqDiff, Nat.reduceLT, ↓reduceIte, Nat.reduceAdd, Nat.reduceMul, Nat.reduceLeDiff, Nat.reduceSub, Nat.reduceBEq, Int.reduceEq, Int.reduceLT, Int.reduceLE, Int.reduceToNat, Int.reduceAdd, Int.reduceSub, Int.reduceNeg, UInt8.reduceToNat]
    cases rl with
    | true =>
      simp only [go_sem, Nat.reduceEqDiff, Nat.reduceLT, ↓reduceIte, Nat.reduceAdd, Nat.reduceMul, Nat.reduceLeDiff, Nat.reduceSub, Nat.reduceBEq, Int.reduceEq, Int.reduceLT, Int.reduceLE, Int.reduceToNat, Int.reduceAdd, Int.reduceSub, Int.reduceNeg, UInt8.reduceToNat]
      refine ⟨[], ?_⟩
      simp only [go_sem, Nat.reduceEqDiff, Nat.reduceLT, ↓reduceIte, Nat.reduceAdd, Nat.reduceMul, Nat.reduceLeDiff, Nat.reduceSub, Nat.reduceBEq, Int.reduceEq, Int.reduceLT, Int.reduceLE, Int.reduceToNat, Int.reduceAdd, Int.reduceSub, Int.reduceNeg, UInt8.reduceToNat]
      rw [hpS]
      rfl
    | false =>
      have hl : ¬ (4000 : Int) < (rs.length : Int) := by have := hg.1; simp only at this; omega
      simp only [go_sem, Nat.reduceEqDiff, Nat.reduceLT, ↓reduceIte, Nat.reduceAdd, Nat.reduceMul, Nat.reduceLeDiff, Nat.reduceSub, Nat.reduceBEq, Int.reduceEq, Int.reduceLT, Int.reduceLE, Int.reduceToNat, Int.reduceAdd, Int.reduceSub, Int.reduceNeg, UInt8.reduceToNat]
      rw [show decide ((4000 : Int) < (rs.length : Int)) = false from decide_eq_false hl]
      simp only [go_sem, Nat.reduceEqDiff, Nat.reduceLT, ↓reduceIte, Nat.reduceAdd, Nat.reduceMul, Nat.reduceLeDiff, Nat.reduceSub, Nat.reduceBEq, Int.reduceEq, Int.reduceLT, Int.reduceLE, Int.reduceToNat, Int.reduceAdd, Int.reduceSub, Int.reduceNeg, UInt8.reduceToNat]
      refine ⟨[], ?_⟩
      simp only [go_sem, Nat.reduceEqDiff, Nat.reduceLT, ↓reduceIte, Nat.reduceAdd, Nat.reduceMul, Nat.reduceLeDiff, Nat.reduceSub, Nat.reduceBEq, Int.reduceEq, Int.reduceLT, Int.reduceLE, Int.reduceToNat, Int.reduceAdd, Int.reduceSub, Int.reduceNeg, UInt8.reduceToNat]
      rw [hpS]
      rfl
end Go.Proofs.YtjoneaifakonjaaDoor
