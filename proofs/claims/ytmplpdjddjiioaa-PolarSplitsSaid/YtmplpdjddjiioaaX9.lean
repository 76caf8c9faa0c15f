/-
  A type split by sides: the document's answer.
-/
import Derived.Test.YtmplpdjddjiioaaX8
import Derived.Test.YtmplpdjddjiioaaI3
set_option linter.all false
namespace Go.Proofs.Ytmplpdjddjiioaa
open Go.Ab
def afld (n : TN) (s : Int) (i : Nat) : Fld := (fnm n.l i, 2 * (n.l.getD i ([], 0)).2 + s)
def aflds (n : TN) (s : Int) (j : Nat) : List Fld := (List.range j).map (afld n s)
def allN (n : TN) (s : Int) : TN := { k := n.k, a := if n.k = 6 then 2 * n.a + 1 - s else if latZ n.k then 2 * n.a + s else n.a, b := if n.k = 6 then 2 * n.b + s else if latZ n.k then 2 * n.b + s else n.b, l := aflds n s n.l.length }
def allJ (ns : List TN) (j : Nat) : TN := allN (nd ns (j / 2)) ((j % 2 : Nat) : Int)
def allL (ns : List TN) : List TN := (List.range (2 * ns.length)).map (allJ ns)
theorem allL_len (ns : List TN) : (allL ns).length = 2 * ns.length := by simp [allL]
theorem allL_nd {ns : List TN} {j : Nat} (h : j < 2 * ns.length) : nd (allL ns) j = allJ ns j := by simp [nd, allL, h]
def allP (ns : List TN) (j : Nat) : List D := (List.range j).map fun j => nodeD (allJ ns j)
theorem allP_step (ns : List TN) (j : Nat) : allP ns j ++ [nodeD (allJ ns j)] = allP ns (j + 1) := by simp [allP, List.range_succ]
theorem allP_len (ns : List TN) (j : Nat) : (allP ns j).length = j := by simp [allP]
theorem allP_all (ns : List TN) : allP ns (2 * ns.length) = (allL ns).map nodeD := by simp [allP, allL, Function.comp_def]
theorem aflds_step (n : TN) (s : Int) (j : Nat) : (aflds n s j).map fldD ++ [.agg [.str (fnm n.l j), i64 (2 * (n.l.getD j ([], 0)).2 + s)]] = (aflds n s (j + 1)).map fldD := by
  simp [aflds, List.range_succ, afld, fldD]
theorem aflds_len (n : TN) (s : Int) (j : Nat) : (aflds n s j).length = j := by simp [aflds]
/-- A node's fields lead to nodes. -/
theorem right_fld {n : TN} {all : Int} (h : rightB n all = true) {i : Nat} (hi : i < n.l.length) : 0 ≤ (n.l.getD i ([], 0)).2 ∧ (n.l.getD i ([], 0)).2 < all := by
  obtain ⟨h1, h2⟩ := right_len h (by intro e; rw [e] at hi; simp at hi)
  have := right_kids h
  rw [kidsL, h2, h1] at this
  simp only [Bool.false_eq_true, if_false, if_true] at this
  refine this _ ?_
  have e : n.l.getD i ([], 0) = n.l[i] := by simp [hi]
  rw [e]
  exact List.mem_map_of_mem (List.getElem_mem hi)
theorem right_ab {n : TN} {all : Int} (h : rightB n all = true) (hp : pairZ n.k = true) : (0 ≤ n.a ∧ n.a < all) ∧ 0 ≤ n.b ∧ n.b < all := by
  have := right_kids h
  rw [kidsL, if_pos hp] at this
  exact ⟨this _ (by simp), this _ (by simp)⟩
theorem kids_allN (n : TN) (s : Int) (hs : s = 0 ∨ s = 1) : kidsL (allN n s) = (kidsN n (1 + s)).map fun q => 2 * q.1 + (q.2 - 1) := by
  have hk : (allN n s).k = n.k := rfl
  by_cases h6 : n.k = 6
  · have hp : pairZ n.k = true := by simp [pairZ, h6]
    have hkl : kidsL n = [n.a, n.b] := by rw [kidsL, if_pos hp]
    rw [kidsN, hkl, kidsL, hk, if_pos hp]
    show [(allN n s).a, (allN n s).b] = [2 * (kidS n (1 + s) 0).1 + ((kidS n (1 + s) 0).2 - 1), 2 * (kidS n (1 + s) 1).1 + ((kidS n (1 + s) 1).2 - 1)]
    have e0 : kidS n (1 + s) 0 = (n.a, flipZ (1 + s)) := by simp [kidS, hkl, h6]
    have e1 : kidS n (1 + s) 1 = (n.b, 1 + s) := by simp [kidS, hkl]
    rw [e0, e1]
    simp only [allN, if_pos h6]
    rcases hs with rfl | rfl
    · have : flipZ (1 + 0) = 2 := rfl
      rw [this, show 2 * n.a + 1 - 0 = 2 * n.a + (2 - 1) by omega, show 2 * n.b + 0 = 2 * n.b + (1 + 0 - 1) by omega]
    · have : flipZ (1 + 1) = 1 := rfl
      rw [this, show 2 * n.a + 1 - 1 = 2 * n.a + (1 - 1) by omega, show 2 * n.b + 1 = 2 * n.b + (1 + 1 - 1) by omega]
  have e : ∀ j, kidS n (1 + s) j = ((kidsL n).getD j 0, 1 + s) := fun j => by simp [kidS, h6]
  by_cases hl : latZ n.k = true
  · have hp := lat_pair hl
    have hkl : kidsL n = [n.a, n.b] := by rw [kidsL, if_pos hp]
    rw [kidsN, hkl, kidsL, hk, if_pos hp]
    show [(allN n s).a, (allN n s).b] = [2 * (kidS n (1 + s) 0).1 + ((kidS n (1 + s) 0).2 - 1), 2 * (kidS n (1 + s) 1).1 + ((kidS n (1 + s) 1).2 - 1)]
    rw [e, e, hkl]
    simp only [allN, if_neg h6, if_pos hl]
    show [2 * n.a + s, 2 * n.b + s] = [2 * n.a + (1 + s - 1), 2 * n.b + (1 + s - 1)]
    rw [show 1 + s - 1 = s by omega]
  · have hp : pairZ n.k = false := by
      have hl : latZ n.k = false := by simpa using hl
      simp only [latZ, Bool.or_eq_false_iff, decide_eq_false_iff_not] at hl
      simp [pairZ, h6, hl]
    by_cases hw : wideZ n.k = true
    · have hkl : kidsL n = n.l.map (·.2) := by rw [kidsL, hp, hw]; rfl
      rw [kidsN, hkl, kidsL, hk, hp, hw]
      simp only [Bool.false_eq_true, if_false, if_true, allN, aflds, List.map_map, List.length_map]
      refine List.map_congr_left fun j hj => ?_
      have hj := List.mem_range.1 hj
      simp only [Function.comp_def, e, hkl, afld]
      simp only [List.getD_eq_getElem?_getD, List.getElem?_map, List.getElem?_eq_getElem hj, Option.map_some, Option.getD_some]
      omega
    · have hw : wideZ n.k = false := by simpa using hw
      have hkl : kidsL n = [] := by rw [kidsL, hp, hw]; rfl
      rw [kidsN, hkl, kidsL, hk, hp, hw]
      rfl
theorem kidsN_mem {n : TN} {side : Int} {q : Spot} (h : q ∈ kidsN n side) (hs : side = 1 ∨ side = 2) : q.1 ∈ kidsL n ∧ (q.2 = 1 ∨ q.2 = 2) := by
  obtain ⟨j, hj, rfl⟩ := List.mem_map.1 h
  have hj := List.mem_range.1 hj
  refine ⟨?_, ?_⟩
  · have : (kidS n side j).1 = (kidsL n)[j] := by simp [kidS, hj]
    rw [this]
    exact List.getElem_mem hj
  · simp only [kidS]
    split
    · exact flip_ok hs
    · exact hs
theorem allL_kids {ns : List TN} (h : rightsB ns = true) : KidIn (allL ns) := by
  intro i hi
  rw [allL_len] at hi ⊢
  rw [allL_nd hi, allJ]
  have hi2 : i / 2 < ns.length := by omega
  have hs : ((i % 2 : Nat) : Int) = 0 ∨ ((i % 2 : Nat) : Int) = 1 := by omega
  obtain ⟨h1, h2⟩ := rights_kids h (i / 2) hi2
  rw [kids_allN _ _ hs]
  refine ⟨fun x hx => ?_, by simpa [kidsN] using h2⟩
  obtain ⟨q, hq, rfl⟩ := List.mem_map.1 hx
  obtain ⟨g1, g2⟩ := kidsN_mem hq (by omega)
  have := h1 _ g1
  omega
theorem allL_mem {ns : List TN} {n : TN} (h : n ∈ allL ns) : ∃ i, i < 2 * ns.length ∧ n = allN (nd ns (i / 2)) ((i % 2 : Nat) : Int) := by
  obtain ⟨i, hi, rfl⟩ := List.mem_map.1 h
  exact ⟨i, List.mem_range.1 hi, rfl⟩
theorem allL_fld {ns : List TN} (h : Sane ns) : ∀ n ∈ allL ns, n.l.length ≤ 1000000 := by
  intro n hn
  obtain ⟨i, hi, rfl⟩ := allL_mem hn
  have hi2 : i / 2 < ns.length := by omega
  have hin : nd ns (i / 2) ∈ ns := by rw [nd_eq hi2]; exact List.getElem_mem hi2
  have := (h.2 _ hin).1
  simpa [allN, aflds_len] using this
theorem allL_wide {ns : List TN} (h : rightsB ns = true) : ∀ n ∈ allL ns, n.l.length ≤ (kidsL n).length := by
  intro n hn
  obtain ⟨i, hi, rfl⟩ := allL_mem hn
  have hi2 : i / 2 < ns.length := by omega
  have hs : ((i % 2 : Nat) : Int) = 0 ∨ ((i % 2 : Nat) : Int) = 1 := by omega
  rw [kids_allN _ _ hs, List.length_map]
  have hl : (allN (nd ns (i / 2)) ((i % 2 : Nat) : Int)).l.length = (nd ns (i / 2)).l.length := by simp [allN, aflds_len]
  rw [hl]
  by_cases h0 : (nd ns (i / 2)).l.length = 0
  · omega
  · rw [kids_wide (rights_nd h hi2) (i := 0) (by omega)]
    exact Nat.le_refl _
set_option maxHeartbeats 4000000 in
theorem f10_ok {G} (ns : List TN) (root : Int) (hN : ns.length ≤ 2000) (hs : Sane ns) (hrs : rightsB ns = true) (hr : okI ns root) :
    HP Try.prog G 10 [typeS ns root] (fun r => ∃ l, r = .tup [.d (typeS (l.map (normN (allL ns) l)) 0), .d (intsD (l.map fun x => 1 + x.tmod 2))] ∧ Belw (allL ns) (2 * root) l) := by
  obtain ⟨hr1, hr2⟩ := hr
  unfold typeS
  refine funZ_ok Try.func10 rfl (by decide +kernel) (by simp [Try.ntmps10]) (veil fun E => ?_)
  simp only [go_sem, Nat.reduceEqDiff, Nat.reduceLT, ↓reduceIte, Nat.reduceAdd, Nat.reduceMul, Nat.reduceLeDiff, Nat.reduceSub, Nat.reduceBEq, Int.reduceEq, Int.reduceLT, Int.reduceLE, Int.reduceToNat, Int.reduceAdd, Int.reduceSub, Int.reduceNeg, UInt8.reduceToNat]
  rw [w64_in ⟨by omega, by omega⟩]
  refine c_frB E [1] (.agg [.sl (some 4) (ns.map nodeD), i64 root]) rfl rfl ?_
  simp only [go_sem, Nat.reduceEqDiff, Nat.reduceLT, ↓reduceIte, Nat.reduceAdd, Nat.reduceMul, Nat.reduceLeDiff, Nat.reduceSub, Nat.reduceBEq, Int.reduceEq, Int.reduceLT, Int.reduceLE, Int.reduceToNat, Int.reduceAdd, Int.reduceSub, Int.reduceNeg, UInt8.reduceToNat]
  refine c_thawB E [4] 0 97 (some 4) [.d .nils, .d (i64 (2 * root))] rfl rfl (by rw [mk_used]; decide) ?_
  simp only [go_sem, Nat.reduceEqDiff, Nat.reduceLT, ↓reduceIte, Nat.reduceAdd, Nat.reduceMul, Nat.reduceLeDiff, Nat.reduceSub, Nat.reduceBEq, Int.reduceEq, Int.reduceLT, Int.reduceLE, Int.reduceToNat, Int.reduceAdd, Int.reduceSub, Int.reduceNeg, UInt8.reduceToNat]
  refine loopT_e E (X := { i : Nat // i ≤ ns.length }) (fun x => [(1, .d (.ptr (.agg [.sl (some 4) (ns.map nodeD), i64 root]))), (2, .bx [2] 0), (4, .bx [4] 0), (5, .d (i64 x.1))])
    (fun x => [([2], .box [.d .nils, .d (i64 0)]), ([4], .box [.vw [97] 0 (2 * x.1), .d (i64 (2 * root))]), ([97], .arr (some 4) (allP ns (2 * x.1)))]) [2, 4, 97] (fun x => ns.length - x.1) ⟨0, Nat.zero_le _⟩ id ?_ ?_
  · simp only [go_sem, Nat.reduceEqDiff, Nat.reduceLT, ↓reduceIte, Nat.reduceAdd, Nat.reduceMul, Nat.reduceLeDiff, Nat.reduceSub, Nat.reduceBEq, Int.reduceEq, Int.reduceLT, Int.reduceLE, Int.reduceToNat, Int.reduceAdd, Int.reduceSub, Int.reduceNeg, UInt8.reduceToNat]
    all_goals rfl
  rintro ⟨i, hi⟩ E0
  refine hideQ E0 fun Q' hQ E' => ?_
  simp only at hi ⊢
  simp only [go_sem, Nat.reduceEqDiff, Nat.reduceLT, ↓reduceIte, Nat.reduceAdd, Nat.reduceMul, Nat.reduceLeDiff, Nat.reduceSub, Nat.reduceBEq, Int.reduceEq, Int.reduceLT, Int.reduceLE, Int.reduceToNat, Int.reduceAdd, Int.reduceSub, Int.reduceNeg, UInt8.reduceToNat]
  refine e_ifd E' (fun h1 => ?_) (fun h1 => ?_) <;> simp only [go_sem, Nat.reduceEqDiff, Nat.reduceLT, ↓reduceIte, Nat.reduceAdd, Nat.reduceMul, Nat.reduceLeDiff, Nat.reduceSub, Nat.reduceBEq, Int.reduceEq, Int.reduceLT, Int.reduceLE, Int.reduceToNat, Int.reduceAdd, Int.reduceSub, Int.reduceNeg, UInt8.reduceToNat]
  · have hi' : i < ns.length := by omega
    have hin : nd ns i ∈ ns := by rw [nd_eq hi']; exact List.getElem_mem hi'
    have hfx := (hs.2 _ hin).1
    have hrt := rights_nd hrs hi'
    refine loopT_e E' (X := { s : Nat // s ≤ 2 }) (fun x => [(1, .d (.ptr (.agg [.sl (some 4) (ns.map nodeD), i64 root]))), (2, .bx [2] 0), (4, .bx [4] 0), (5, .d (i64 i)), (6, .d (i64 x.1))])
      (fun x => [([2], .box [.d .nils, .d (i64 0)]), ([4], .box [.vw [97] 0 (2 * i + x.1), .d (i64 (2 * root))]), ([97], .arr (some 4) (allP ns (2 * i + x.1)))]) [2, 4, 97] (fun x => 2 - x.1) ⟨0, Nat.zero_le _⟩ id ?_ ?_
    · simp only [go_sem, Nat.reduceEqDiff, Nat.reduceLT, ↓reduceIte, Nat.reduceAdd, Nat.reduceMul, Nat.reduceLeDiff, Nat.reduceSub, Nat.reduceBEq, Int.reduceEq, Int.reduceLT, Int.reduceLE, Int.reduceToNat, Int.reduceAdd, Int.reduceSub, Int.reduceNeg, UInt8.reduceToNat]
      all_goals rfl
    rintro ⟨s, hs2⟩ E1
    refine hideQ E1 fun Q2 hQ2 E2 => ?_
    simp only at hs2 ⊢
    simp only [go_sem, Nat.reduceEqDiff, Nat.reduceLT, ↓reduceIte, Nat.reduceAdd, Nat.reduceMul, Nat.reduceLeDiff, Nat.reduceSub, Nat.reduceBEq, Int.reduceEq, Int.reduceLT, Int.reduceLE, Int.reduceToNat, Int.reduceAdd, Int.reduceSub, Int.reduceNeg, UInt8.reduceToNat]
    refine e_ifd E2 (fun h2 => ?_) (fun h2 => ?_) <;> simp only [go_sem, Nat.reduceEqDiff, Nat.reduceLT, ↓reduceIte, Nat.reduceAdd, Nat.reduceMul, Nat.reduceLeDiff, Nat.reduceSub, Nat.reduceBEq, Int.reduceEq, Int.reduceLT, Int.reduceLE, Int.reduceToNat, Int.reduceAdd, Int.reduceSub, Int.reduceNeg, UInt8.reduceToNat]
    · have hs' : s < 2 := by omega
      have hall : allJ ns (2 * i + s) = allN (nd ns i) s := by
        have h1 : (2 * i + s) / 2 = i := by omega
        have h2 : (2 * i + s) % 2 = s := by omega
        rw [allJ, h1, h2]
      refine region_xv mixed E2 fun X => ?_
      simp only [go_sem, Nat.reduceEqDiff, Nat.reduceLT, ↓reduceIte, Nat.reduceAdd, Nat.reduceMul, Nat.reduceLeDiff, Nat.reduceSub, Nat.reduceBEq, Int.reduceEq, Int.reduceLT, Int.reduceLE, Int.reduceToNat, Int.reduceAdd, Int.reduceSub, Int.reduceNeg, UInt8.reduceToNat]
      refine ⟨⟨by omega, by omega⟩, ?_⟩
      rw [nodes_nd hi']
      simp only [go_sem, Nat.reduceEqDiff, Nat.reduceLT, ↓reduceIte, Nat.reduceAdd, Nat.reduceMul, Nat.reduceLeDiff, Nat.reduceSub, Nat.reduceBEq, Int.reduceEq, Int.reduceLT, Int.reduceLE, Int.reduceToNat, Int.reduceAdd, Int.reduceSub, Int.reduceNeg, UInt8.reduceToNat]
      refine ⟨⟨by omega, by omega⟩, ?_⟩
      rw [nodes_nd hi']
      simp only [go_sem, Nat.reduceEqDiff, Nat.reduceLT, ↓reduceIte, Nat.reduceAdd, Nat.reduceMul, Nat.reduceLeDiff, Nat.reduceSub, Nat.reduceBEq, Int.reduceEq, Int.reduceLT, Int.reduceLE, Int.reduceToNat, Int.reduceAdd, Int.reduceSub, Int.reduceNeg, UInt8.reduceToNat]
      refine ⟨⟨by omega, by omega⟩, ?_⟩
      rw [nodes_nd hi']
      simp only [go_sem, Nat.reduceEqDiff, Nat.reduceLT, ↓reduceIte, Nat.reduceAdd, Nat.reduceMul, Nat.reduceLeDiff, Nat.reduceSub, Nat.reduceBEq, Int.reduceEq, Int.reduceLT, Int.reduceLE, Int.reduceToNat, Int.reduceAdd, Int.reduceSub, Int.reduceNeg, UInt8.reduceToNat]
      refine ⟨by decide +kernel, ?_⟩
      refine e_ifd E2 (fun h6 => ?_) (fun h6 => ?_) <;> simp only [go_sem, Nat.reduceEqDiff, Nat.reduceLT, ↓reduceIte, Nat.reduceAdd, Nat.reduceMul, Nat.reduceLeDiff, Nat.reduceSub, Nat.reduceBEq, Int.reduceEq, Int.reduceLT, Int.reduceLE, Int.reduceToNat, Int.reduceAdd, Int.reduceSub, Int.reduceNeg, UInt8.reduceToNat]
      · obtain ⟨⟨ha1, ha2⟩, hb1, hb2⟩ := right_ab hrt (by simp [pairZ, h6])
        rw [w64_in ⟨by omega, by omega⟩, w64_in ⟨by omega, by omega⟩, w64_in ⟨by omega, by omega⟩, w64_in ⟨by omega, by omega⟩, w64_in ⟨by omega, by omega⟩]
        rw [h6]
        simp only [go_sem, Nat.reduceEqDiff, Nat.reduceLT, ↓reduceIte, Nat.reduceAdd, Nat.reduceMul, Nat.reduceLeDiff, Nat.reduceSub, Nat.reduceBEq, Int.reduceEq, Int.reduceLT, Int.reduceLE, Int.reduceToNat, Int.reduceAdd, Int.reduceSub, Int.reduceNeg, UInt8.reduceToNat]
        have hK : (nd ns i).k = 6 := h6
        have hA : (if (nd ns i).k = 6 then 2 * (nd ns i).a + 1 - (s : Int) else if latZ (nd ns i).k then 2 * (nd ns i).a + s else (nd ns i).a) = 2 * (nd ns i).a + 1 - s := if_pos h6
        have hB : (if (nd ns i).k = 6 then 2 * (nd ns i).b + (s : Int) else if latZ (nd ns i).k then 2 * (nd ns i).b + s else (nd ns i).b) = 2 * (nd ns i).b + s := if_pos h6
        refine c_thawB E2 [7] 3 96 (some 2) [.d (i64 6), .d (i64 (2 * (nd ns i).a + 1 - s)), .d (i64 (2 * (nd ns i).b + s)), .d .nils] rfl rfl (by rw [mk_used]; decide) ?_
        simp only [go_sem, Nat.reduceEqDiff, Nat.reduceLT, ↓reduceIte, Nat.reduceAdd, Nat.reduceMul, Nat.reduceLeDiff, Nat.reduceSub, Nat.reduceBEq, Int.reduceEq, Int.reduceLT, Int.reduceLE, Int.reduceToNat, Int.reduceAdd, Int.reduceSub, Int.reduceNeg, UInt8.reduceToNat]
        refine loopT_e E2 (X := { j : Nat // j ≤ (nd ns i).l.length }) (fun y => [(1, .d (.ptr (.agg [.sl (some 4) (ns.map nodeD), i64 root]))), (2, .bx [2] 0), (4, .bx [4] 0), (5, .d (i64 i)), (6, .d (i64 s)), (7, .bx [7] 0), (8, .d (i64 y.1))])
          (fun y => [([2], .box [.d .nils, .d (i64 0)]), ([4], .box [.vw [97] 0 (2 * i + s), .d (i64 (2 * root))]), ([97], .arr (some 4) (allP ns (2 * i + s))), ([7], .box [.d (i64 6), .d (i64 (2 * (nd ns i).a + 1 - s)), .d (i64 (2 * (nd ns i).b + s)), .vw [96] 0 y.1]), ([96], .arr (some 2) ((aflds (nd ns i) s y.1).map fldD))]) [2, 4, 97, 7, 96] (fun y => (nd ns i).l.length - y.1) ⟨0, Nat.zero_le _⟩ id ?_ ?_
        · simp only [go_sem, Nat.reduceEqDiff, Nat.reduceLT, ↓reduceIte, Nat.reduceAdd, Nat.reduceMul, Nat.reduceLeDiff, Nat.reduceSub, Nat.reduceBEq, Int.reduceEq, Int.reduceLT, Int.reduceLE, Int.reduceToNat, Int.reduceAdd, Int.reduceSub, Int.reduceNeg, UInt8.reduceToNat]
          all_goals rfl
        rintro ⟨j, hj⟩ E3
        refine hideQ E3 fun Q3 hQ3 E4 => ?_
        simp only at hj ⊢
        simp only [go_sem, Nat.reduceEqDiff, Nat.reduceLT, ↓reduceIte, Nat.reduceAdd, Nat.reduceMul, Nat.reduceLeDiff, Nat.reduceSub, Nat.reduceBEq, Int.reduceEq, Int.reduceLT, Int.reduceLE, Int.reduceToNat, Int.reduceAdd, Int.reduceSub, Int.reduceNeg, UInt8.reduceToNat]
        refine ⟨⟨by omega, by omega⟩, ?_⟩
        rw [nodes_nd hi']
        simp only [go_sem, Nat.reduceEqDiff, Nat.reduceLT, ↓reduceIte, Nat.reduceAdd, Nat.reduceMul, Nat.reduceLeDiff, Nat.reduceSub, Nat.reduceBEq, Int.reduceEq, Int.reduceLT, Int.reduceLE, Int.reduceToNat, Int.reduceAdd, Int.reduceSub, Int.reduceNeg, UInt8.reduceToNat]
        refine e_ifd E4 (fun h4 => ?_) (fun h4 => ?_) <;> simp only [go_sem, Nat.reduceEqDiff, Nat.reduceLT, ↓reduceIte, Nat.reduceAdd, Nat.reduceMul, Nat.reduceLeDiff, Nat.reduceSub, Nat.reduceBEq, Int.reduceEq, Int.reduceLT, Int.reduceLE, Int.reduceToNat, Int.reduceAdd, Int.reduceSub, Int.reduceNeg, UInt8.reduceToNat]
        · have h4' : j < (nd ns i).l.length := by omega
          have hff := right_fld hrt h4'
          refine region_xv mixed E4 fun X => ?_
          simp only [go_sem, Nat.reduceEqDiff, Nat.reduceLT, ↓reduceIte, Nat.reduceAdd, Nat.reduceMul, Nat.reduceLeDiff, Nat.reduceSub, Nat.reduceBEq, Int.reduceEq, Int.reduceLT, Int.reduceLE, Int.reduceToNat, Int.reduceAdd, Int.reduceSub, Int.reduceNeg, UInt8.reduceToNat]
          refine ⟨⟨by omega, by omega⟩, ?_⟩
          rw [nodes_nd hi']
          simp only [go_sem, Nat.reduceEqDiff, Nat.reduceLT, ↓reduceIte, Nat.reduceAdd, Nat.reduceMul, Nat.reduceLeDiff, Nat.reduceSub, Nat.reduceBEq, Int.reduceEq, Int.reduceLT, Int.reduceLE, Int.reduceToNat, Int.reduceAdd, Int.reduceSub, Int.reduceNeg, UInt8.reduceToNat]
          refine ⟨⟨by omega, by omega⟩, ?_⟩
          rw [flds_get' h4']
          simp only [go_sem, Nat.reduceEqDiff, Nat.reduceLT, ↓reduceIte, Nat.reduceAdd, Nat.reduceMul, Nat.reduceLeDiff, Nat.reduceSub, Nat.reduceBEq, Int.reduceEq, Int.reduceLT, Int.reduceLE, Int.reduceToNat, Int.reduceAdd, Int.reduceSub, Int.reduceNeg, UInt8.reduceToNat]
          refine ⟨⟨by omega, by omega⟩, ?_⟩
          rw [nodes_nd hi']
          simp only [go_sem, Nat.reduceEqDiff, Nat.reduceLT, ↓reduceIte, Nat.reduceAdd, Nat.reduceMul, Nat.reduceLeDiff, Nat.reduceSub, Nat.reduceBEq, Int.reduceEq, Int.reduceLT, Int.reduceLE, Int.reduceToNat, Int.reduceAdd, Int.reduceSub, Int.reduceNeg, UInt8.reduceToNat]
          refine ⟨⟨by omega, by omega⟩, ?_⟩
          rw [flds_get' h4']
          simp only [go_sem, Nat.reduceEqDiff, Nat.reduceLT, ↓reduceIte, Nat.reduceAdd, Nat.reduceMul, Nat.reduceLeDiff, Nat.reduceSub, Nat.reduceBEq, Int.reduceEq, Int.reduceLT, Int.reduceLE, Int.reduceToNat, Int.reduceAdd, Int.reduceSub, Int.reduceNeg, UInt8.reduceToNat]
          have hw1 : w64 (2 * ((nd ns i).l.getD j ([], 0)).2) = 2 * ((nd ns i).l.getD j ([], 0)).2 := w64_in ⟨by omega, by omega⟩
          have hw2 : w64 (2 * ((nd ns i).l.getD j ([], 0)).2 + s) = 2 * ((nd ns i).l.getD j ([], 0)).2 + s := w64_in ⟨by omega, by omega⟩
          rw [hw1, hw2]
          refine ⟨by omega, by decide +kernel, ?_⟩
          rw [List.take_of_length_le (by simp [aflds_len]), aflds_step, hQ3]
          simp only [go_sem, Nat.reduceEqDiff, Nat.reduceLT, ↓reduceIte, Nat.reduceAdd, Nat.reduceMul, Nat.reduceLeDiff, Nat.reduceSub, Nat.reduceBEq, Int.reduceEq, Int.reduceLT, Int.reduceLE, Int.reduceToNat, Int.reduceAdd, Int.reduceSub, Int.reduceNeg, UInt8.reduceToNat]
          refine ⟨⟨j + 1, by omega⟩, by show (nd ns i).l.length - (j + 1) < _; omega, tau [([96], [120])], ?_⟩
          simp only [go_sem, Nat.reduceEqDiff, Nat.reduceLT, ↓reduceIte, Nat.reduceAdd, Nat.reduceMul, Nat.reduceLeDiff, Nat.reduceSub, Nat.reduceBEq, Int.reduceEq, Int.reduceLT, Int.reduceLE, Int.reduceToNat, Int.reduceAdd, Int.reduceSub, Int.reduceNeg, UInt8.reduceToNat]
          rw [w64_in ⟨by omega, by omega⟩]
          rfl
        · have h4' : j = (nd ns i).l.length := by omega
          subst h4'
          rw [hQ3]
          simp only [go_sem, Nat.reduceEqDiff, Nat.reduceLT, ↓reduceIte, Nat.reduceAdd, Nat.reduceMul, Nat.reduceLeDiff, Nat.reduceSub, Nat.reduceBEq, Int.reduceEq, Int.reduceLT, Int.reduceLE, Int.reduceToNat, Int.reduceAdd, Int.reduceSub, Int.reduceNeg, UInt8.reduceToNat]
          refine e_frz E2 [96] (some 2) _ rfl ?_
          simp only [go_sem, Nat.reduceEqDiff, Nat.reduceLT, ↓reduceIte, Nat.reduceAdd, Nat.reduceMul, Nat.reduceLeDiff, Nat.reduceSub, Nat.reduceBEq, Int.reduceEq, Int.reduceLT, Int.reduceLE, Int.reduceToNat, Int.reduceAdd, Int.reduceSub, Int.reduceNeg, UInt8.reduceToNat]
          rw [List.take_of_length_le (by simp [aflds_len])]
          have hnd2 : D.agg [i64 6, i64 (2 * (nd ns i).a + 1 - s), i64 (2 * (nd ns i).b + s), .sl (some 2) ((aflds (nd ns i) s (nd ns i).l.length).map fldD)] = nodeD (allJ ns (2 * i + s)) := by
            rw [hall, allN, hA, hB, hK]
            rfl
          rw [hnd2]
          refine ⟨by omega, ?_⟩
          rw [List.take_of_length_le (by simp [allP_len]), allP_step, hQ2]
          simp only [go_sem, Nat.reduceEqDiff, Nat.reduceLT, ↓reduceIte, Nat.reduceAdd, Nat.reduceMul, Nat.reduceLeDiff, Nat.reduceSub, Nat.reduceBEq, Int.reduceEq, Int.reduceLT, Int.reduceLE, Int.reduceToNat, Int.reduceAdd, Int.reduceSub, Int.reduceNeg, UInt8.reduceToNat]
          refine ⟨⟨s + 1, by omega⟩, by show 2 - (s + 1) < _; omega, tau [([97], [126])], ?_⟩
          rw [w64_in ⟨by omega, by omega⟩]
          simp only [go_sem, Nat.reduceEqDiff, Nat.reduceLT, ↓reduceIte, Nat.reduceAdd, Nat.reduceMul, Nat.reduceLeDiff, Nat.reduceSub, Nat.reduceBEq, Int.reduceEq, Int.reduceLT, Int.reduceLE, Int.reduceToNat, Int.reduceAdd, Int.reduceSub, Int.reduceNeg, UInt8.reduceToNat]
          exact ⟨rfl, rfl, rfl⟩
      · have hK : (nd ns i).k = (nd ns i).k := rfl
        repeat (first
          | (apply e_gm E2; (· simp only [go_sem, Nat.reduceEqDiff, Nat.reduceLT, ↓reduceIte, Nat.reduceAdd, Nat.reduceMul, Nat.reduceLeDiff, Nat.reduceSub, Nat.reduceBEq, Int.reduceEq, Int.reduceLT, Int.reduceLE, Int.reduceToNat, Int.reduceAdd, Int.reduceSub, Int.reduceNeg, UInt8.reduceToNat]); (· intro h; (try simp only [Bool.and_eq_true, Bool.not_eq_true', Bool.not_eq_false'] at h); simp only [↓h, go_sem, Nat.reduceEqDiff, Nat.reduceLT, ↓reduceIte, Nat.reduceAdd, Nat.reduceMul, Nat.reduceLeDiff, Nat.reduceSub, Nat.reduceBEq, Int.reduceEq, Int.reduceLT, Int.reduceLE, Int.reduceToNat, Int.reduceAdd, Int.reduceSub, Int.reduceNeg, UInt8.reduceToNat]; rfl); simp only [go_sem, Nat.reduceEqDiff, Nat.reduceLT, ↓reduceIte, Nat.reduceAdd, Nat.reduceMul, Nat.reduceLeDiff, Nat.reduceSub, Nat.reduceBEq, Int.reduceEq, Int.reduceLT, Int.reduceLE, Int.reduceToNat, Int.reduceAdd, Int.reduceSub, Int.reduceNeg, UInt8.reduceToNat])
          | (apply e_gpk E2; (· simp only [go_sem, Nat.reduceEqDiff, Nat.reduceLT, ↓reduceIte, Nat.reduceAdd, Nat.reduceMul, Nat.reduceLeDiff, Nat.reduceSub, Nat.reduceBEq, Int.reduceEq, Int.reduceLT, Int.reduceLE, Int.reduceToNat, Int.reduceAdd, Int.reduceSub, Int.reduceNeg, UInt8.reduceToNat]); (· intro h; (try simp only [Bool.and_eq_true, Bool.not_eq_true', Bool.not_eq_false'] at h); simp only [↓h, go_sem, Nat.reduceEqDiff, Nat.reduceLT, ↓reduceIte, Nat.reduceAdd, Nat.reduceMul, Nat.reduceLeDiff, Nat.reduceSub, Nat.reduceBEq, Int.reduceEq, Int.reduceLT, Int.reduceLE, Int.reduceToNat, Int.reduceAdd, Int.reduceSub, Int.reduceNeg, UInt8.reduceToNat]; rfl); (· intro h; (try simp only [Bool.and_eq_true, Bool.not_eq_true', Bool.not_eq_false'] at h); simp only [↓h, go_sem, Nat.reduceEqDiff, Nat.reduceLT, ↓reduceIte, Nat.reduceAdd, Nat.reduceMul, Nat.reduceLeDiff, Nat.reduceSub, Nat.reduceBEq, Int.reduceEq, Int.reduceLT, Int.reduceLE, Int.reduceToNat, Int.reduceAdd, Int.reduceSub, Int.reduceNeg, UInt8.reduceToNat]; rfl); simp only [go_sem, Nat.reduceEqDiff, Nat.reduceLT, ↓reduceIte, Nat.reduceAdd, Nat.reduceMul, Nat.reduceLeDiff, Nat.reduceSub, Nat.reduceBEq, Int.reduceEq, Int.reduceLT, Int.reduceLE, Int.reduceToNat, Int.reduceAdd, Int.reduceSub, Int.reduceNeg, UInt8.reduceToNat])
          | (apply e_gm2 E2; (· simp only [go_sem, Nat.reduceEqDiff, Nat.reduceLT, ↓reduceIte, Nat.reduceAdd, Nat.reduceMul, Nat.reduceLeDiff, Nat.reduceSub, Nat.reduceBEq, Int.reduceEq, Int.reduceLT, Int.reduceLE, Int.reduceToNat, Int.reduceAdd, Int.reduceSub, Int.reduceNeg, UInt8.reduceToNat]); (· rfl); (· intro h h'; (try simp only [Bool.and_eq_true, Bool.not_eq_true', Bool.not_eq_false'] at h h'); simp only [↓h, ↓h', go_sem, Nat.reduceEqDiff, Nat.reduceLT, ↓reduceIte, Nat.reduceAdd, Nat.reduceMul, Nat.reduceLeDiff, Nat.reduceSub, Nat.reduceBEq, Int.reduceEq, Int.reduceLT, Int.reduceLE, Int.reduceToNat, Int.reduceAdd, Int.reduceSub, Int.reduceNeg, UInt8.reduceToNat]; rfl); simp only [go_sem, Nat.reduceEqDiff, Nat.reduceLT, ↓reduceIte, Nat.reduceAdd, Nat.reduceMul, Nat.reduceLeDiff, Nat.reduceSub, Nat.reduceBEq, Int.reduceEq, Int.reduceLT, Int.reduceLE, Int.reduceToNat, Int.reduceAdd, Int.reduceSub, Int.reduceNeg, UInt8.reduceToNat])
          | (apply e_gpk2 E2; (· simp only [go_sem, Nat.reduceEqDiff, Nat.reduceLT, ↓reduceIte, Nat.reduceAdd, Nat.reduceMul, Nat.reduceLeDiff, Nat.reduceSub, Nat.reduceBEq, Int.reduceEq, Int.reduceLT, Int.reduceLE, Int.reduceToNat, Int.reduceAdd, Int.reduceSub, Int.reduceNeg, UInt8.reduceToNat]); (· rfl); (· intro h h'; (try simp only [Bool.and_eq_true, Bool.not_eq_true', Bool.not_eq_false'] at h h'); simp only [↓h, ↓h', go_sem, Nat.reduceEqDiff, Nat.reduceLT, ↓reduceIte, Nat.reduceAdd, Nat.reduceMul, Nat.reduceLeDiff, Nat.reduceSub, Nat.reduceBEq, Int.reduceEq, Int.reduceLT, Int.reduceLE, Int.reduceToNat, Int.reduceAdd, Int.reduceSub, Int.reduceNeg, UInt8.reduceToNat]; rfl); (· intro h h'; (try simp only [Bool.and_eq_true, Bool.not_eq_true', Bool.not_eq_false'] at h h'); simp only [↓h, ↓h', go_sem, Nat.reduceEqDiff, Nat.reduceLT, ↓reduceIte, Nat.reduceAdd, Nat.reduceMul, Nat.reduceLeDiff, Nat.reduceSub, Nat.reduceBEq, Int.reduceEq, Int.reduceLT, Int.reduceLE, Int.reduceToNat, Int.reduceAdd, Int.reduceSub, Int.reduceNeg, UInt8.reduceToNat]; rfl); simp only [go_sem, Nat.reduceEqDiff, Nat.reduceLT, ↓reduceIte, Nat.reduceAdd, Nat.reduceMul, Nat.reduceLeDiff, Nat.reduceSub, Nat.reduceBEq, Int.reduceEq, Int.reduceLT, Int.reduceLE, Int.reduceToNat, Int.reduceAdd, Int.reduceSub, Int.reduceNeg, UInt8.reduceToNat])
          | (apply e_pk E2; (· decide); simp only [go_sem, Nat.reduceEqDiff, Nat.reduceLT, ↓reduceIte, Nat.reduceAdd, Nat.reduceMul, Nat.reduceLeDiff, Nat.reduceSub, Nat.reduceBEq, Int.reduceEq, Int.reduceLT, Int.reduceLE, Int.reduceToNat, Int.reduceAdd, Int.reduceSub, Int.reduceNeg, UInt8.reduceToNat]))
        refine e_if E2 (fun h9 => ?_) (fun h9 => ?_) <;> simp only [go_sem, Nat.reduceEqDiff, Nat.reduceLT, ↓reduceIte, Nat.reduceAdd, Nat.reduceMul, Nat.reduceLeDiff, Nat.reduceSub, Nat.reduceBEq, Int.reduceEq, Int.reduceLT, Int.reduceLE, Int.reduceToNat, Int.reduceAdd, Int.reduceSub, Int.reduceNeg, UInt8.reduceToNat]
        · have hl : latZ (nd ns i).k = true := h9
          obtain ⟨⟨ha1, ha2⟩, hb1, hb2⟩ := right_ab hrt (lat_pair hl)
          rw [w64_in ⟨by omega, by omega⟩, w64_in ⟨by omega, by omega⟩, w64_in ⟨by omega, by omega⟩, w64_in ⟨by omega, by omega⟩]
          have hA : (if (nd ns i).k = 6 then 2 * (nd ns i).a + 1 - (s : Int) else if latZ (nd ns i).k then 2 * (nd ns i).a + s else (nd ns i).a) = 2 * (nd ns i).a + s := by rw [if_neg h6, if_pos hl]
          have hB : (if (nd ns i).k = 6 then 2 * (nd ns i).b + (s : Int) else if latZ (nd ns i).k then 2 * (nd ns i).b + s else (nd ns i).b) = 2 * (nd ns i).b + s := by rw [if_neg h6, if_pos hl]
          refine c_thawB E2 [7] 3 96 (some 2) [.d (i64 (nd ns i).k), .d (i64 (2 * (nd ns i).a + s)), .d (i64 (2 * (nd ns i).b + s)), .d .nils] rfl rfl (by rw [mk_used]; decide) ?_
          simp only [go_sem, Nat.reduceEqDiff, Nat.reduceLT, ↓reduceIte, Nat.reduceAdd, Nat.reduceMul, Nat.reduceLeDiff, Nat.reduceSub, Nat.reduceBEq, Int.reduceEq, Int.reduceLT, Int.reduceLE, Int.reduceToNat, Int.reduceAdd, Int.reduceSub, Int.reduceNeg, UInt8.reduceToNat]
          refine loopT_e E2 (X := { j : Nat // j ≤ (nd ns i).l.length }) (fun y => [(1, .d (.ptr (.agg [.sl (some 4) (ns.map nodeD), i64 root]))), (2, .bx [2] 0), (4, .bx [4] 0), (5, .d (i64 i)), (6, .d (i64 s)), (7, .bx [7] 0), (8, .d (i64 y.1))])
            (fun y => [([2], .box [.d .nils, .d (i64 0)]), ([4], .box [.vw [97] 0 (2 * i + s), .d (i64 (2 * root))]), ([97], .arr (some 4) (allP ns (2 * i + s))), ([7], .box [.d (i64 (nd ns i).k), .d (i64 (2 * (nd ns i).a + s)), .d (i64 (2 * (nd ns i).b + s)), .vw [96] 0 y.1]), ([96], .arr (some 2) ((aflds (nd ns i) s y.1).map fldD))]) [2, 4, 97, 7, 96] (fun y => (nd ns i).l.length - y.1) ⟨0, Nat.zero_le _⟩ id ?_ ?_
          · simp only [go_sem, Nat.reduceEqDiff, Nat.reduceLT, ↓reduceIte, Nat.reduceAdd, Nat.reduceMul, Nat.reduceLeDiff, Nat.reduceSub, Nat.reduceBEq, Int.reduceEq, Int.reduceLT, Int.reduceLE, Int.reduceToNat, Int.reduceAdd, Int.reduceSub, Int.reduceNeg, UInt8.reduceToNat]
            all_goals rfl
          rintro ⟨j, hj⟩ E3
          refine hideQ E3 fun Q3 hQ3 E4 => ?_
          simp only at hj ⊢
          simp only [go_sem, Nat.reduceEqDiff, Nat.reduceLT, ↓reduceIte, Nat.reduceAdd, Nat.reduceMul, Nat.reduceLeDiff, Nat.reduceSub, Nat.reduceBEq, Int.reduceEq, Int.reduceLT, Int.reduceLE, Int.reduceToNat, Int.reduceAdd, Int.reduceSub, Int.reduceNeg, UInt8.reduceToNat]
          refine ⟨⟨by omega, by omega⟩, ?_⟩
          rw [nodes_nd hi']
          simp only [go_sem, Nat.reduceEqDiff, Nat.reduceLT, ↓reduceIte, Nat.reduceAdd, Nat.reduceMul, Nat.reduceLeDiff, Nat.reduceSub, Nat.reduceBEq, Int.reduceEq, Int.reduceLT, Int.reduceLE, Int.reduceToNat, Int.reduceAdd, Int.reduceSub, Int.reduceNeg, UInt8.reduceToNat]
          refine e_ifd E4 (fun h4 => ?_) (fun h4 => ?_) <;> simp only [go_sem, Nat.reduceEqDiff, Nat.reduceLT, ↓reduceIte, Nat.reduceAdd, Nat.reduceMul, Nat.reduceLeDiff, Nat.reduceSub, Nat.reduceBEq, Int.reduceEq, Int.reduceLT, Int.reduceLE, Int.reduceToNat, Int.reduceAdd, Int.reduceSub, Int.reduceNeg, UInt8.reduceToNat]
          · have h4' : j < (nd ns i).l.length := by omega
            have hff := right_fld hrt h4'
            refine region_xv mixed E4 fun X => ?_
            simp only [go_sem, Nat.reduceEqDiff, Nat.reduceLT, ↓reduceIte, Nat.reduceAdd, Nat.reduceMul, Nat.reduceLeDiff, Nat.reduceSub, Nat.reduceBEq, Int.reduceEq, Int.reduceLT, Int.reduceLE, Int.reduceToNat, Int.reduceAdd, Int.reduceSub, Int.reduceNeg, UInt8.reduceToNat]
            refine ⟨⟨by omega, by omega⟩, ?_⟩
            rw [nodes_nd hi']
            simp only [go_sem, Nat.reduceEqDiff, Nat.reduceLT, ↓reduceIte, Nat.reduceAdd, Nat.reduceMul, Nat.reduceLeDiff, Nat.reduceSub, Nat.reduceBEq, Int.reduceEq, Int.reduceLT, Int.reduceLE, Int.reduceToNat, Int.reduceAdd, Int.reduceSub, Int.reduceNeg, UInt8.reduceToNat]
            refine ⟨⟨by omega, by omega⟩, ?_⟩
            rw [flds_get' h4']
            simp only [go_sem, Nat.reduceEqDiff, Nat.reduceLT, ↓reduceIte, Nat.reduceAdd, Nat.reduceMul, Nat.reduceLeDiff, Nat.reduceSub, Nat.reduceBEq, Int.reduceEq, Int.reduceLT, Int.reduceLE, Int.reduceToNat, Int.reduceAdd, Int.reduceSub, Int.reduceNeg, UInt8.reduceToNat]
            refine ⟨⟨by omega, by omega⟩, ?_⟩
            rw [nodes_nd hi']
            simp only [go_sem, Nat.reduceEqDiff, Nat.reduceLT, ↓reduceIte, Nat.reduceAdd, Nat.reduceMul, Nat.reduceLeDiff, Nat.reduceSub, Nat.reduceBEq, Int.reduceEq, Int.reduceLT, Int.reduceLE, Int.reduceToNat, Int.reduceAdd, Int.reduceSub, Int.reduceNeg, UInt8.reduceToNat]
            refine ⟨⟨by omega, by omega⟩, ?_⟩
            rw [flds_get' h4']
            simp only [go_sem, Nat.reduceEqDiff, Nat.reduceLT, ↓reduceIte, Nat.reduceAdd, Nat.reduceMul, Nat.reduceLeDiff, Nat.reduceSub, Nat.reduceBEq, Int.reduceEq, Int.reduceLT, Int.reduceLE, Int.reduceToNat, Int.reduceAdd, Int.reduceSub, Int.reduceNeg, UInt8.reduceToNat]
            have hw1 : w64 (2 * ((nd ns i).l.getD j ([], 0)).2) = 2 * ((nd ns i).l.getD j ([], 0)).2 := w64_in ⟨by omega, by omega⟩
            have hw2 : w64 (2 * ((nd ns i).l.getD j ([], 0)).2 + s) = 2 * ((nd ns i).l.getD j ([], 0)).2 + s := w64_in ⟨by omega, by omega⟩
            rw [hw1, hw2]
            refine ⟨by omega, by decide +kernel, ?_⟩
            rw [List.take_of_length_le (by simp [aflds_len]), aflds_step, hQ3]
            simp only [go_sem, Nat.reduceEqDiff, Nat.reduceLT, ↓reduceIte, Nat.reduceAdd, Nat.reduceMul, Nat.reduceLeDiff, Nat.reduceSub, Nat.reduceBEq, Int.reduceEq, Int.reduceLT, Int.reduceLE, Int.reduceToNat, Int.reduceAdd, Int.reduceSub, Int.reduceNeg, UInt8.reduceToNat]
            refine ⟨⟨j + 1, by omega⟩, by show (nd ns i).l.length - (j + 1) < _; omega, tau [([96], [120])], ?_⟩
            simp only [go_sem, Nat.reduceEqDiff, Nat.reduceLT, ↓reduceIte, Nat.reduceAdd, Nat.reduceMul, Nat.reduceLeDiff, Nat.reduceSub, Nat.reduceBEq, Int.reduceEq, Int.reduceLT, Int.reduceLE, Int.reduceToNat, Int.reduceAdd, Int.reduceSub, Int.reduceNeg, UInt8.reduceToNat]
            rw [w64_in ⟨by omega, by omega⟩]
            rfl
          · have h4' : j = (nd ns i).l.length := by omega
            subst h4'
            rw [hQ3]
            simp only [go_sem, Nat.reduceEqDiff, Nat.reduceLT, ↓reduceIte, Nat.reduceAdd, Nat.reduceMul, Nat.reduceLeDiff, Nat.reduceSub, Nat.reduceBEq, Int.reduceEq, Int.reduceLT, Int.reduceLE, Int.reduceToNat, Int.reduceAdd, Int.reduceSub, Int.reduceNeg, UInt8.reduceToNat]
            refine e_frz E2 [96] (some 2) _ rfl ?_
            simp only [go_sem, Nat.reduceEqDiff, Nat.reduceLT, ↓reduceIte, Nat.reduceAdd, Nat.reduceMul, Nat.reduceLeDiff, Nat.reduceSub, Nat.reduceBEq, Int.reduceEq, Int.reduceLT, Int.reduceLE, Int.reduceToNat, Int.reduceAdd, Int.reduceSub, Int.reduceNeg, UInt8.reduceToNat]
            rw [List.take_of_length_le (by simp [aflds_len])]
            have hnd2 : D.agg [i64 (nd ns i).k, i64 (2 * (nd ns i).a + s), i64 (2 * (nd ns i).b + s), .sl (some 2) ((aflds (nd ns i) s (nd ns i).l.length).map fldD)] = nodeD (allJ ns (2 * i + s)) := by
              rw [hall, allN, hA, hB, hK]
              rfl
            rw [hnd2]
            refine ⟨by omega, ?_⟩
            rw [List.take_of_length_le (by simp [allP_len]), allP_step, hQ2]
            simp only [go_sem, Nat.reduceEqDiff, Nat.reduceLT, ↓reduceIte, Nat.reduceAdd, Nat.reduceMul, Nat.reduceLeDiff, Nat.reduceSub, Nat.reduceBEq, Int.reduceEq, Int.reduceLT, Int.reduceLE, Int.reduceToNat, Int.reduceAdd, Int.reduceSub, Int.reduceNeg, UInt8.reduceToNat]
            refine ⟨⟨s + 1, by omega⟩, by show 2 - (s + 1) < _; omega, tau [([97], [126])], ?_⟩
            rw [w64_in ⟨by omega, by omega⟩]
            simp only [go_sem, Nat.reduceEqDiff, Nat.reduceLT, ↓reduceIte, Nat.reduceAdd, Nat.reduceMul, Nat.reduceLeDiff, Nat.reduceSub, Nat.reduceBEq, Int.reduceEq, Int.reduceLT, Int.reduceLE, Int.reduceToNat, Int.reduceAdd, Int.reduceSub, Int.reduceNeg, UInt8.reduceToNat]
            exact ⟨rfl, rfl, rfl⟩
        · have hl : latZ (nd ns i).k = false := h9
          have hA : (if (nd ns i).k = 6 then 2 * (nd ns i).a + 1 - (s : Int) else if latZ (nd ns i).k then 2 * (nd ns i).a + s else (nd ns i).a) = (nd ns i).a := by rw [if_neg h6, hl]; rfl
          have hB : (if (nd ns i).k = 6 then 2 * (nd ns i).b + (s : Int) else if latZ (nd ns i).k then 2 * (nd ns i).b + s else (nd ns i).b) = (nd ns i).b := by rw [if_neg h6, hl]; rfl
          refine c_thawB E2 [7] 3 96 (some 2) [.d (i64 (nd ns i).k), .d (i64 (nd ns i).a), .d (i64 (nd ns i).b), .d .nils] rfl rfl (by rw [mk_used]; decide) ?_
          simp only [go_sem, Nat.reduceEqDiff, Nat.reduceLT, ↓reduceIte, Nat.reduceAdd, Nat.reduceMul, Nat.reduceLeDiff, Nat.reduceSub, Nat.reduceBEq, Int.reduceEq, Int.reduceLT, Int.reduceLE, Int.reduceToNat, Int.reduceAdd, Int.reduceSub, Int.reduceNeg, UInt8.reduceToNat]
          refine loopT_e E2 (X := { j : Nat // j ≤ (nd ns i).l.length }) (fun y => [(1, .d (.ptr (.agg [.sl (some 4) (ns.map nodeD), i64 root]))), (2, .bx [2] 0), (4, .bx [4] 0), (5, .d (i64 i)), (6, .d (i64 s)), (7, .bx [7] 0), (8, .d (i64 y.1))])
            (fun y => [([2], .box [.d .nils, .d (i64 0)]), ([4], .box [.vw [97] 0 (2 * i + s), .d (i64 (2 * root))]), ([97], .arr (some 4) (allP ns (2 * i + s))), ([7], .box [.d (i64 (nd ns i).k), .d (i64 (nd ns i).a), .d (i64 (nd ns i).b), .vw [96] 0 y.1]), ([96], .arr (some 2) ((aflds (nd ns i) s y.1).map fldD))]) [2, 4, 97, 7, 96] (fun y => (nd ns i).l.length - y.1) ⟨0, Nat.zero_le _⟩ id ?_ ?_
          · simp only [go_sem, Nat.reduceEqDiff, Nat.reduceLT, ↓reduceIte, Nat.reduceAdd, Nat.reduceMul, Nat.reduceLeDiff, Nat.reduceSub, Nat.reduceBEq, Int.reduceEq, Int.reduceLT, Int.reduceLE, Int.reduceToNat, Int.reduceAdd, Int.reduceSub, Int.reduceNeg, UInt8.reduceToNat]
            all_goals rfl
          rintro ⟨j, hj⟩ E3
          refine hideQ E3 fun Q3 hQ3 E4 => ?_
          simp only at hj ⊢
          simp only [go_sem, Nat.reduceEqDiff, Nat.reduceLT, ↓reduceIte, Nat.reduceAdd, Nat.reduceMul, Nat.reduceLeDiff, Nat.reduceSub, Nat.reduceBEq, Int.reduceEq, Int.reduceLT, Int.reduceLE, Int.reduceToNat, Int.reduceAdd, Int.reduceSub, Int.reduceNeg, UInt8.reduceToNat]
          refine ⟨⟨by omega, by omega⟩, ?_⟩
          rw [nodes_nd hi']
          simp only [go_sem, Nat.reduceEqDiff, Nat.reduceLT, ↓reduceIte, Nat.reduceAdd, Nat.reduceMul, Nat.reduceLeDiff, Nat.reduceSub, Nat.reduceBEq, Int.reduceEq, Int.reduceLT, Int.reduceLE, Int.reduceToNat, Int.reduceAdd, Int.reduceSub, Int.reduceNeg, UInt8.reduceToNat]
          refine e_ifd E4 (fun h4 => ?_) (fun h4 => ?_) <;> simp only [go_sem, Nat.reduceEqDiff, Nat.reduceLT, ↓reduceIte, Nat.reduceAdd, Nat.reduceMul, Nat.reduceLeDiff, Nat.reduceSub, Nat.reduceBEq, Int.reduceEq, Int.reduceLT, Int.reduceLE, Int.reduceToNat, Int.reduceAdd, Int.reduceSub, Int.reduceNeg, UInt8.reduceToNat]
          · have h4' : j < (nd ns i).l.length := by omega
            have hff := right_fld hrt h4'
            refine region_xv mixed E4 fun X => ?_
            simp only [go_sem, Nat.reduceEqDiff, Nat.reduceLT, ↓reduceIte, Nat.reduceAdd, Nat.reduceMul, Nat.reduceLeDiff, Nat.reduceSub, Nat.reduceBEq, Int.reduceEq, Int.reduceLT, Int.reduceLE, Int.reduceToNat, Int.reduceAdd, Int.reduceSub, Int.reduceNeg, UInt8.reduceToNat]
            refine ⟨⟨by omega, by omega⟩, ?_⟩
            rw [nodes_nd hi']
            simp only [go_sem, Nat.reduceEqDiff, Nat.reduceLT, ↓reduceIte, Nat.reduceAdd, Nat.reduceMul, Nat.reduceLeDiff, Nat.reduceSub, Nat.reduceBEq, Int.reduceEq, Int.reduceLT, Int.reduceLE, Int.reduceToNat, Int.reduceAdd, Int.reduceSub, Int.reduceNeg, UInt8.reduceToNat]
            refine ⟨⟨by omega, by omega⟩, ?_⟩
            rw [flds_get' h4']
            simp only [go_sem, Nat.reduceEqDiff, Nat.reduceLT, ↓reduceIte, Nat.reduceAdd, Nat.reduceMul, Nat.reduceLeDiff, Nat.reduceSub, Nat.reduceBEq, Int.reduceEq, Int.reduceLT, Int.reduceLE, Int.reduceToNat, Int.reduceAdd, Int.reduceSub, Int.reduceNeg, UInt8.reduceToNat]
            refine ⟨⟨by omega, by omega⟩, ?_⟩
            rw [nodes_nd hi']
            simp only [go_sem, Nat.reduceEqDiff, Nat.reduceLT, ↓reduceIte, Nat.reduceAdd, Nat.reduceMul, Nat.reduceLeDiff, Nat.reduceSub, Nat.reduceBEq, Int.reduceEq, Int.reduceLT, Int.reduceLE, Int.reduceToNat, Int.reduceAdd, Int.reduceSub, Int.reduceNeg, UInt8.reduceToNat]
            refine ⟨⟨by omega, by omega⟩, ?_⟩
            rw [flds_get' h4']
            simp only [go_sem, Nat.reduceEqDiff, Nat.reduceLT, ↓reduceIte, Nat.reduceAdd, Nat.reduceMul, Nat.reduceLeDiff, Nat.reduceSub, Nat.reduceBEq, Int.reduceEq, Int.reduceLT, Int.reduceLE, Int.reduceToNat, Int.reduceAdd, Int.reduceSub, Int.reduceNeg, UInt8.reduceToNat]
            have hw1 : w64 (2 * ((nd ns i).l.getD j ([], 0)).2) = 2 * ((nd ns i).l.getD j ([], 0)).2 := w64_in ⟨by omega, by omega⟩
            have hw2 : w64 (2 * ((nd ns i).l.getD j ([], 0)).2 + s) = 2 * ((nd ns i).l.getD j ([], 0)).2 + s := w64_in ⟨by omega, by omega⟩
            rw [hw1, hw2]
            refine ⟨by omega, by decide +kernel, ?_⟩
            rw [List.take_of_length_le (by simp [aflds_len]), aflds_step, hQ3]
            simp only [go_sem, Nat.reduceEqDiff, Nat.reduceLT, ↓reduceIte, Nat.reduceAdd, Nat.reduceMul, Nat.reduceLeDiff, Nat.reduceSub, Nat.reduceBEq, Int.reduceEq, Int.reduceLT, Int.reduceLE, Int.reduceToNat, Int.reduceAdd, Int.reduceSub, Int.reduceNeg, UInt8.reduceToNat]
            refine ⟨⟨j + 1, by omega⟩, by show (nd ns i).l.length - (j + 1) < _; omega, tau [([96], [120])], ?_⟩
            simp only [go_sem, Nat.reduceEqDiff, Nat.reduceLT, ↓reduceIte, Nat.reduceAdd, Nat.reduceMul, Nat.reduceLeDiff, Nat.reduceSub, Nat.reduceBEq, Int.reduceEq, Int.reduceLT, Int.reduceLE, Int.reduceToNat, Int.reduceAdd, Int.reduceSub, Int.reduceNeg, UInt8.reduceToNat]
            rw [w64_in ⟨by omega, by omega⟩]
            rfl
          · have h4' : j = (nd ns i).l.length := by omega
            subst h4'
            rw [hQ3]
            simp only [go_sem, Nat.reduceEqDiff, Nat.reduceLT, ↓reduceIte, Nat.reduceAdd, Nat.reduceMul, Nat.reduceLeDiff, Nat.reduceSub, Nat.reduceBEq, Int.reduceEq, Int.reduceLT, Int.reduceLE, Int.reduceToNat, Int.reduceAdd, Int.reduceSub, Int.reduceNeg, UInt8.reduceToNat]
            refine e_frz E2 [96] (some 2) _ rfl ?_
            simp only [go_sem, Nat.reduceEqDiff, Nat.reduceLT, ↓reduceIte, Nat.reduceAdd, Nat.reduceMul, Nat.reduceLeDiff, Nat.reduceSub, Nat.reduceBEq, Int.reduceEq, Int.reduceLT, Int.reduceLE, Int.reduceToNat, Int.reduceAdd, Int.reduceSub, Int.reduceNeg, UInt8.reduceToNat]
            rw [List.take_of_length_le (by simp [aflds_len])]
            have hnd2 : D.agg [i64 (nd ns i).k, i64 (nd ns i).a, i64 (nd ns i).b, .sl (some 2) ((aflds (nd ns i) s (nd ns i).l.length).map fldD)] = nodeD (allJ ns (2 * i + s)) := by
              rw [hall, allN, hA, hB, hK]
              rfl
            rw [hnd2]
            refine ⟨by omega, ?_⟩
            rw [List.take_of_length_le (by simp [allP_len]), allP_step, hQ2]
            simp only [go_sem, Nat.reduceEqDiff, Nat.reduceLT, ↓reduceIte, Nat.reduceAdd, Nat.reduceMul, Nat.reduceLeDiff, Nat.reduceSub, Nat.reduceBEq, Int.reduceEq, Int.reduceLT, Int.reduceLE, Int.reduceToNat, Int.reduceAdd, Int.reduceSub, Int.reduceNeg, UInt8.reduceToNat]
            refine ⟨⟨s + 1, by omega⟩, by show 2 - (s + 1) < _; omega, tau [([97], [126])], ?_⟩
            rw [w64_in ⟨by omega, by omega⟩]
            simp only [go_sem, Nat.reduceEqDiff, Nat.reduceLT, ↓reduceIte, Nat.reduceAdd, Nat.reduceMul, Nat.reduceLeDiff, Nat.reduceSub, Nat.reduceBEq, Int.reduceEq, Int.reduceLT, Int.reduceLE, Int.reduceToNat, Int.reduceAdd, Int.reduceSub, Int.reduceNeg, UInt8.reduceToNat]
            exact ⟨rfl, rfl, rfl⟩
    · have h2' : s = 2 := by omega
      subst h2'
      rw [hQ2]
      simp only [go_sem, Nat.reduceEqDiff, Nat.reduceLT, ↓reduceIte, Nat.reduceAdd, Nat.reduceMul, Nat.reduceLeDiff, Nat.reduceSub, Nat.reduceBEq, Int.reduceEq, Int.reduceLT, Int.reduceLE, Int.reduceToNat, Int.reduceAdd, Int.reduceSub, Int.reduceNeg, UInt8.reduceToNat]
      rw [hQ]
      simp only [go_sem, Nat.reduceEqDiff, Nat.reduceLT, ↓reduceIte, Nat.reduceAdd, Nat.reduceMul, Nat.reduceLeDiff, Nat.reduceSub, Nat.reduceBEq, Int.reduceEq, Int.reduceLT, Int.reduceLE, Int.reduceToNat, Int.reduceAdd, Int.reduceSub, Int.reduceNeg, UInt8.reduceToNat]
      refine ⟨⟨i + 1, by omega⟩, by show ns.length - (i + 1) < _; omega, id, ?_⟩
      rw [w64_in ⟨by omega, by omega⟩]
      simp only [go_sem, Nat.reduceEqDiff, Nat.reduceLT, ↓reduceIte, Nat.reduceAdd, Nat.reduceMul, Nat.reduceLeDiff, Nat.reduceSub, Nat.reduceBEq, Int.reduceEq, Int.reduceLT, Int.reduceLE, Int.reduceToNat, Int.reduceAdd, Int.reduceSub, Int.reduceNeg, UInt8.reduceToNat]
      exact ⟨rfl, rfl, rfl⟩
  · rw [hQ]
    simp only [go_sem, Nat.reduceEqDiff, Nat.reduceLT, ↓reduceIte, Nat.reduceAdd, Nat.reduceMul, Nat.reduceLeDiff, Nat.reduceSub, Nat.reduceBEq, Int.reduceEq, Int.reduceLT, Int.reduceLE, Int.reduceToNat, Int.reduceAdd, Int.reduceSub, Int.reduceNeg, UInt8.reduceToNat]
    have h2' : i = ns.length := by omega
    subst h2'
    rw [allP_all]
    refine e_frzA E [97] (some 4) _ rfl (by simp only [go_sem, Nat.reduceEqDiff, Nat.reduceLT, ↓reduceIte, Nat.reduceAdd, Nat.reduceMul, Nat.reduceLeDiff, Nat.reduceSub, Nat.reduceBEq, Int.reduceEq, Int.reduceLT, Int.reduceLE, Int.reduceToNat, Int.reduceAdd, Int.reduceSub, Int.reduceNeg, UInt8.reduceToNat]; rfl) ?_
    simp only [go_sem, Nat.reduceEqDiff, Nat.reduceLT, ↓reduceIte, Nat.reduceAdd, Nat.reduceMul, Nat.reduceLeDiff, Nat.reduceSub, Nat.reduceBEq, Int.reduceEq, Int.reduceLT, Int.reduceLE, Int.reduceToNat, Int.reduceAdd, Int.reduceSub, Int.reduceNeg, UInt8.reduceToNat]
    have hal := allL_len ns
    try rw [List.take_of_length_le (by simp [allL_len])]
    have hkA := allL_kids hrs
    have hflA := allL_fld hs
    have hrA : okI (allL ns) (2 * root) := ⟨by omega, by rw [hal]; omega⟩
    refine e_call E (f25_ok (allL ns) (2 * root) (2 * root) (by omega) hflA hkA hrA) rfl rfl (by simp) ?_
    rintro _ ⟨l, rfl, hl⟩
    simp only [go_sem, Nat.reduceEqDiff, Nat.reduceLT, ↓reduceIte, Nat.reduceAdd, Nat.reduceMul, Nat.reduceLeDiff, Nat.reduceSub, Nat.reduceBEq, Int.reduceEq, Int.reduceLT, Int.reduceLE, Int.reduceToNat, Int.reduceAdd, Int.reduceSub, Int.reduceNeg, UInt8.reduceToNat]
    unfold intsD
    have hll := hl.2.2
    refine loopT_e E (X := { k : Nat // k ≤ l.length }) (fun x => [(2, .bx [2] 0), (4, .bx [4] 0), (9, .d (.sl none (l.map i64))), (10, .vw [98] 0 x.1), (11, .d (i64 x.1))])
      (fun x => [([2], .box [.d .nils, .d (i64 0)]), ([4], .box [.d (.sl (some 4) ((allL ns).map nodeD)), .d (i64 (2 * root))]), ([98], .arr none ((l.take x.1).map fun x => i64 (1 + x.tmod 2)))]) [2, 4, 98] (fun x => l.length - x.1) ⟨0, Nat.zero_le _⟩ (tau [([98], [132])]) ?_ ?_
    · simp only [go_sem, Nat.reduceEqDiff, Nat.reduceLT, ↓reduceIte, Nat.reduceAdd, Nat.reduceMul, Nat.reduceLeDiff, Nat.reduceSub, Nat.reduceBEq, Int.reduceEq, Int.reduceLT, Int.reduceLE, Int.reduceToNat, Int.reduceAdd, Int.reduceSub, Int.reduceNeg, UInt8.reduceToNat]
      all_goals rfl
    rintro ⟨k, hk⟩ E1
    refine hideQ E1 fun Q2 hQ2 E2 => ?_
    simp only at hk ⊢
    simp only [go_sem, Nat.reduceEqDiff, Nat.reduceLT, ↓reduceIte, Nat.reduceAdd, Nat.reduceMul, Nat.reduceLeDiff, Nat.reduceSub, Nat.reduceBEq, Int.reduceEq, Int.reduceLT, Int.reduceLE, Int.reduceToNat, Int.reduceAdd, Int.reduceSub, Int.reduceNeg, UInt8.reduceToNat]
    refine e_ifd E2 (fun h4 => ?_) (fun h4 => ?_) <;> simp only [go_sem, Nat.reduceEqDiff, Nat.reduceLT, ↓reduceIte, Nat.reduceAdd, Nat.reduceMul, Nat.reduceLeDiff, Nat.reduceSub, Nat.reduceBEq, Int.reduceEq, Int.reduceLT, Int.reduceLE, Int.reduceToNat, Int.reduceAdd, Int.reduceSub, Int.reduceNeg, UInt8.reduceToNat]
    · have h4' : k < l.length := by omega
      have hok := hl.2.1 l[k] (List.getElem_mem h4')
      have hm1 : 0 ≤ l[k].tmod 2 ∧ l[k].tmod 2 < 2 := by
        obtain ⟨h1, h2⟩ := hok
        rw [Int.tmod_eq_emod_of_nonneg h1]
        omega
      refine ⟨⟨by omega, by omega⟩, ?_⟩
      rw [ints_get h4']
      simp only [go_sem, Nat.reduceEqDiff, Nat.reduceLT, ↓reduceIte, Nat.reduceAdd, Nat.reduceMul, Nat.reduceLeDiff, Nat.reduceSub, Nat.reduceBEq, Int.reduceEq, Int.reduceLT, Int.reduceLE, Int.reduceToNat, Int.reduceAdd, Int.reduceSub, Int.reduceNeg, UInt8.reduceToNat]
      have hw1 : w64 (1 + l[k].tmod 2) = 1 + l[k].tmod 2 := w64_in ⟨by omega, by omega⟩
      have htk : List.take k (List.map (fun x : Int => i64 (1 + x.tmod 2)) (List.take k l)) ++ [i64 (1 + l[k].tmod 2)] = List.map (fun x : Int => i64 (1 + x.tmod 2)) (List.take (k + 1) l) := by
        rw [List.take_of_length_le (by simp; omega), List.take_succ_eq_append_getElem h4', List.map_append]
        rfl
      refine ⟨by omega, ?_⟩
      rw [hw1, htk, hQ2]
      simp only [go_sem, Nat.reduceEqDiff, Nat.reduceLT, ↓reduceIte, Nat.reduceAdd, Nat.reduceMul, Nat.reduceLeDiff, Nat.reduceSub, Nat.reduceBEq, Int.reduceEq, Int.reduceLT, Int.reduceLE, Int.reduceToNat, Int.reduceAdd, Int.reduceSub, Int.reduceNeg, UInt8.reduceToNat]
      refine ⟨⟨k + 1, by omega⟩, by show l.length - (k + 1) < _; omega, tau [([98], [147])], ?_⟩
      simp only [go_sem, Nat.reduceEqDiff, Nat.reduceLT, ↓reduceIte, Nat.reduceAdd, Nat.reduceMul, Nat.reduceLeDiff, Nat.reduceSub, Nat.reduceBEq, Int.reduceEq, Int.reduceLT, Int.reduceLE, Int.reduceToNat, Int.reduceAdd, Int.reduceSub, Int.reduceNeg, UInt8.reduceToNat]
      rw [w64_in ⟨by omega, by omega⟩]
      rfl
    · have h4' : k = l.length := by omega
      subst h4'
      rw [hQ2]
      simp only [go_sem, Nat.reduceEqDiff, Nat.reduceLT, ↓reduceIte, Nat.reduceAdd, Nat.reduceMul, Nat.reduceLeDiff, Nat.reduceSub, Nat.reduceBEq, Int.reduceEq, Int.reduceLT, Int.reduceLE, Int.reduceToNat, Int.reduceAdd, Int.reduceSub, Int.reduceNeg, UInt8.reduceToNat]
      refine e_call E (f26_ok (allL ns) (2 * root) (2 * root) (by omega) hflA hkA (allL_wide hrs) hrA) rfl rfl (by simp) ?_
      rintro _ ⟨l', rfl, hl'⟩
      obtain rfl := hl.1.fn hl'.1
      unfold typeS
      simp only [go_sem, Nat.reduceEqDiff, Nat.reduceLT, ↓reduceIte, Nat.reduceAdd, Nat.reduceMul, Nat.reduceLeDiff, Nat.reduceSub, Nat.reduceBEq, Int.reduceEq, Int.reduceLT, Int.reduceLE, Int.reduceToNat, Int.reduceAdd, Int.reduceSub, Int.reduceNeg, UInt8.reduceToNat]
      refine ⟨[([98], none, (l.take l.length).map fun x => i64 (1 + x.tmod 2))], ?_⟩
      simp only [go_sem, Nat.reduceEqDiff, Nat.reduceLT, ↓reduceIte, Nat.reduceAdd, Nat.reduceMul, Nat.reduceLeDiff, Nat.reduceSub, Nat.reduceBEq, Int.reduceEq, Int.reduceLT, Int.reduceLE, Int.reduceToNat, Int.reduceAdd, Int.reduceSub, Int.reduceNeg, UInt8.reduceToNat]
      refine ⟨l, ?_, hl⟩
      simp [intsD, Function.comp_def]
end Go.Proofs.Ytmplpdjddjiioaa
