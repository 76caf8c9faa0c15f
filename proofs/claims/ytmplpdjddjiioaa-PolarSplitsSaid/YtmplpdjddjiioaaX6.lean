/-
  A type split by sides: the program's answer, walked.
-/
import Derived.Test.YtmplpdjddjiioaaX5
set_option linter.all false
namespace Go.Proofs.Ytmplpdjddjiioaa
open Go.Ab
def fspl (ns : List TN) (l : List Spot) (s : Spot) (j i : Nat) : Fld := (fnm (nd ns s.1.toNat).l i, if i < j then atS l ((kidsS ns s).getD i (0, 0)) else ((nd ns s.1.toNat).l.getD i ([], 0)).2)
def fsplit (ns : List TN) (l : List Spot) (s : Spot) (j : Nat) : List Fld := (List.range (nd ns s.1.toNat).l.length).map (fspl ns l s j)
def splitN (ns : List TN) (l : List Spot) (s : Spot) : TN :=
  { k := (nd ns s.1.toNat).k
    a := if pairZ (nd ns s.1.toNat).k then atS l ((kidsS ns s).getD 0 (0, 0)) else (nd ns s.1.toNat).a
    b := if pairZ (nd ns s.1.toNat).k then atS l ((kidsS ns s).getD 1 (0, 0)) else (nd ns s.1.toNat).b
    l := fsplit ns l s (nd ns s.1.toNat).l.length }
theorem fsplit_len (ns : List TN) (l : List Spot) (s : Spot) (j : Nat) : (fsplit ns l s j).length = (nd ns s.1.toNat).l.length := by simp [fsplit]
theorem fsplit_zero (ns : List TN) (l : List Spot) (s : Spot) : fsplit ns l s 0 = (nd ns s.1.toNat).l := by
  refine List.ext_getElem (by simp [fsplit]) fun q h1 h2 => ?_
  simp [fsplit, fspl, fnm, h2]
theorem fsplit_get {ns : List TN} {l : List Spot} {s : Spot} {j i : Nat} (h : i < (nd ns s.1.toNat).l.length) : (fsplit ns l s j).getD i ([], 0) = fspl ns l s j i := by simp [fsplit, h]
theorem fsplit_step {ns : List TN} {l : List Spot} {s : Spot} {j : Nat} (_h : j < (nd ns s.1.toNat).l.length) :
    ((fsplit ns l s j).map fldD).set j (.agg [.str (fnm (nd ns s.1.toNat).l j), i64 (atS l ((kidsS ns s).getD j (0, 0)))]) = (fsplit ns l s (j + 1)).map fldD := by
  refine List.ext_getElem (by simp [fsplit]) fun q h1 h2 => ?_
  have hq : q < (nd ns s.1.toNat).l.length := by simpa [fsplit] using h2
  simp only [List.getElem_set]
  by_cases e : j = q
  · subst e
    simp [fsplit, fspl, fldD]
  · rw [if_neg e]
    have : (q < j) ↔ (q < j + 1) := by omega
    simp [fsplit, fspl, this]
theorem right_len {n : TN} {all : Int} (h : rightB n all = true) (hn : n.l ≠ []) : wideZ n.k = true ∧ pairZ n.k = false := by
  have hl : 0 < n.l.length := by
    cases hl : n.l with
    | nil => exact absurd hl hn
    | cons => simp
  simp only [rightB, Bool.and_eq_true, Bool.not_eq_true', Bool.or_eq_false_iff, Bool.and_eq_false_iff, Bool.not_eq_false', decide_eq_false_iff_not] at h
  have hw : wideZ n.k = true := by
    rcases h.1.2.1 with g | g
    · exact g
    · omega
  refine ⟨hw, ?_⟩
  simp only [wideZ, Bool.or_eq_true, decide_eq_true_eq] at hw
  rcases hw with hw | hw <;> simp [pairZ, hw]
theorem kids_wide {n : TN} {all : Int} (h : rightB n all = true) {i : Nat} (hi : i < n.l.length) (side : Int) : (kidsN n side).length = n.l.length := by
  obtain ⟨h1, h2⟩ := right_len h (by intro e; rw [e] at hi; simp at hi)
  simp [kidsN, kidsL, h1, h2]
theorem kids_pair {n : TN} (h : pairZ n.k = true) (side : Int) : (kidsN n side).length = 2 := by simp [kidsN, kidsL, h]
theorem zero3 : zeroD Try.prog 3 = some (i64 0) := by kernel_rfl
set_option maxHeartbeats 4000000 in
theorem f7_ok {G} (ns : List TN) (root : Int) (hs : Sane ns) : HP Try.prog G 7 [typeS ns root] (fun r => (mayZ ns root ≠ 0 ∧ r = .tup [.d (.agg [.nils, i64 0]), .d .nils, .d (i64 (mayZ ns root))]) ∨
    (mayZ ns root = 0 ∧ ∃ l, r = .tup [.d (typeS (l.map (splitN ns l)) 0), .d (intsD (l.map (·.2))), .d (i64 0)] ∧ Spots ns root l)) := by
  refine funZ_ok Try.func7 rfl (by decide +kernel) (by simp [Try.ntmps7]) (veil fun E => ?_)
  unfold typeS
  simp only [go_sem, Nat.reduceEqDiff, Nat.reduceLT, ↓reduceIte, Nat.reduceAdd, Nat.reduceMul, Nat.reduceLeDiff, Nat.reduceSub, Nat.reduceBEq, Int.reduceEq, Int.reduceLT, Int.reduceLE, Int.reduceToNat, Int.reduceAdd, Int.reduceSub, Int.reduceNeg, UInt8.reduceToNat]
  refine e_call E (f20_ok ns root hs) rfl rfl (by simp) ?_
  rintro _ rfl
  simp only [go_sem, Nat.reduceEqDiff, Nat.reduceLT, ↓reduceIte, Nat.reduceAdd, Nat.reduceMul, Nat.reduceLeDiff, Nat.reduceSub, Nat.reduceBEq, Int.reduceEq, Int.reduceLT, Int.reduceLE, Int.reduceToNat, Int.reduceAdd, Int.reduceSub, Int.reduceNeg, UInt8.reduceToNat]
  refine e_ifd E (fun h1 => ?_) (fun h1 => ?_) <;> simp only [go_sem, Nat.reduceEqDiff, Nat.reduceLT, ↓reduceIte, Nat.reduceAdd, Nat.reduceMul, Nat.reduceLeDiff, Nat.reduceSub, Nat.reduceBEq, Int.reduceEq, Int.reduceLT, Int.reduceLE, Int.reduceToNat, Int.reduceAdd, Int.reduceSub, Int.reduceNeg, UInt8.reduceToNat]
  · refine ⟨[], ?_⟩
    simp only [go_sem, Nat.reduceEqDiff, Nat.reduceLT, ↓reduceIte, Nat.reduceAdd, Nat.reduceMul, Nat.reduceLeDiff, Nat.reduceSub, Nat.reduceBEq, Int.reduceEq, Int.reduceLT, Int.reduceLE, Int.reduceToNat, Int.reduceAdd, Int.reduceSub, Int.reduceNeg, UInt8.reduceToNat]
    exact .inl h1
  have h1 : mayZ ns root = 0 := by simpa using h1
  obtain ⟨⟨h2, h3⟩, h4, h5, h6⟩ := may_ok h1
  refine e_makeMap E (by simp only [go_sem, Nat.reduceEqDiff, Nat.reduceLT, ↓reduceIte, Nat.reduceAdd, Nat.reduceMul, Nat.reduceLeDiff, Nat.reduceSub, Nat.reduceBEq, Int.reduceEq, Int.reduceLT, Int.reduceLE, Int.reduceToNat, Int.reduceAdd, Int.reduceSub, Int.reduceNeg, UInt8.reduceToNat]) (by rw [mk_used]; decide) ?_
  simp only [go_sem, Nat.reduceEqDiff, Nat.reduceLT, ↓reduceIte, Nat.reduceAdd, Nat.reduceMul, Nat.reduceLeDiff, Nat.reduceSub, Nat.reduceBEq, Int.reduceEq, Int.reduceLT, Int.reduceLE, Int.reduceToNat, Int.reduceAdd, Int.reduceSub, Int.reduceNeg, UInt8.reduceToNat]
  refine e_call E (f21_ok ns root h3 (fun n hn => (hs.2 n hn).1) (rights_kids h5) h4) rfl rfl (by simp) ?_
  rintro _ ⟨l, rfl, hl⟩
  simp only [go_sem, Nat.reduceEqDiff, Nat.reduceLT, ↓reduceIte, Nat.reduceAdd, Nat.reduceMul, Nat.reduceLeDiff, Nat.reduceSub, Nat.reduceBEq, Int.reduceEq, Int.reduceLT, Int.reduceLE, Int.reduceToNat, Int.reduceAdd, Int.reduceSub, Int.reduceNeg, UInt8.reduceToNat]
  have hnd : l.Nodup := Spots.nodup hl
  have hlen := hl.2.2
  refine c_frB E [1] (.agg [.sl (some 4) (ns.map nodeD), i64 root]) rfl rfl ?_
  simp only [go_sem, Nat.reduceEqDiff, Nat.reduceLT, ↓reduceIte, Nat.reduceAdd, Nat.reduceMul, Nat.reduceLeDiff, Nat.reduceSub, Nat.reduceBEq, Int.reduceEq, Int.reduceLT, Int.reduceLE, Int.reduceToNat, Int.reduceAdd, Int.reduceSub, Int.reduceNeg, UInt8.reduceToNat]
  refine loopO_e E (X := { k : Nat // k ≤ l.length }) (fun x => [(1, .d (.ptr (.agg [.sl (some 4) (ns.map nodeD), i64 root]))), (2, .bx [2] 0), (6, .mp [23]), (7, .d (.sl (some 2) (l.map spotD))), (26, .d (.sl (some 2) (l.map spotD))), (27, .d (i64 l.length)), (28, .d (i64 x.1))]) (fun x => [([2], .box [.d .nils, .d (i64 0)]), ([23], .map (menc spK (atM l x.1)))]) [2, 23] (fun x => l.length - x.1) ⟨0, Nat.zero_le _⟩ ?_ ?_
  · simp only [go_sem, Nat.reduceEqDiff, Nat.reduceLT, ↓reduceIte, Nat.reduceAdd, Nat.reduceMul, Nat.reduceLeDiff, Nat.reduceSub, Nat.reduceBEq, Int.reduceEq, Int.reduceLT, Int.reduceLE, Int.reduceToNat, Int.reduceAdd, Int.reduceSub, Int.reduceNeg, UInt8.reduceToNat]
    all_goals rfl
  · rintro ⟨k, hkl⟩ E0
    refine hideQ E0 fun Q' hQ E' => ?_
    simp only at hkl ⊢
    simp only [go_sem, Nat.reduceEqDiff, Nat.reduceLT, ↓reduceIte, Nat.reduceAdd, Nat.reduceMul, Nat.reduceLeDiff, Nat.reduceSub, Nat.reduceBEq, Int.reduceEq, Int.reduceLT, Int.reduceLE, Int.reduceToNat, Int.reduceAdd, Int.reduceSub, Int.reduceNeg, UInt8.reduceToNat]
    refine e_ifd E' (fun h1 => ?_) (fun h1 => ?_) <;> simp only [go_sem, Nat.reduceEqDiff, Nat.reduceLT, ↓reduceIte, Nat.reduceAdd, Nat.reduceMul, Nat.reduceLeDiff, Nat.reduceSub, Nat.reduceBEq, Int.reduceEq, Int.reduceLT, Int.reduceLE, Int.reduceToNat, Int.reduceAdd, Int.reduceSub, Int.reduceNeg, UInt8.reduceToNat]
    · have h1' : k < l.length := by omega
      refine ⟨⟨by omega, by omega⟩, ?_⟩
      rw [spot_get h1']
      simp only [go_sem, Nat.reduceEqDiff, Nat.reduceLT, ↓reduceIte, Nat.reduceAdd, Nat.reduceMul, Nat.reduceLeDiff, Nat.reduceSub, Nat.reduceBEq, Int.reduceEq, Int.reduceLT, Int.reduceLE, Int.reduceToNat, Int.reduceAdd, Int.reduceSub, Int.reduceNeg, UInt8.reduceToNat]
      refine e_mapUpdate E' [23] (atM l k) (l.getD k (0, 0)) (i64 k) (by rw [ti53]) keySpot rfl rfl rfl rfl rfl ?_
      rw [atM_step hnd h1']
      simp only [go_sem, Nat.reduceEqDiff, Nat.reduceLT, ↓reduceIte, Nat.reduceAdd, Nat.reduceMul, Nat.reduceLeDiff, Nat.reduceSub, Nat.reduceBEq, Int.reduceEq, Int.reduceLT, Int.reduceLE, Int.reduceToNat, Int.reduceAdd, Int.reduceSub, Int.reduceNeg, UInt8.reduceToNat]
      rw [hQ]
      simp only [go_sem, Nat.reduceEqDiff, Nat.reduceLT, ↓reduceIte, Nat.reduceAdd, Nat.reduceMul, Nat.reduceLeDiff, Nat.reduceSub, Nat.reduceBEq, Int.reduceEq, Int.reduceLT, Int.reduceLE, Int.reduceToNat, Int.reduceAdd, Int.reduceSub, Int.reduceNeg, UInt8.reduceToNat]
      refine ⟨⟨k + 1, by omega⟩, by show l.length - (k + 1) < _; omega, ?_⟩
      rw [w64_in ⟨by omega, by omega⟩]; exact ⟨rfl, rfl⟩
    · rw [hQ]
      simp only [go_sem, Nat.reduceEqDiff, Nat.reduceLT, ↓reduceIte, Nat.reduceAdd, Nat.reduceMul, Nat.reduceLeDiff, Nat.reduceSub, Nat.reduceBEq, Int.reduceEq, Int.reduceLT, Int.reduceLE, Int.reduceToNat, Int.reduceAdd, Int.reduceSub, Int.reduceNeg, UInt8.reduceToNat]
      have hkl' : k = l.length := by omega
      subst hkl'
      refine c_thaw E 11 98 none rfl (by rw [mk_used]; decide) ?_
      simp only [go_sem, Nat.reduceEqDiff, Nat.reduceLT, ↓reduceIte, Nat.reduceAdd, Nat.reduceMul, Nat.reduceLeDiff, Nat.reduceSub, Nat.reduceBEq, Int.reduceEq, Int.reduceLT, Int.reduceLE, Int.reduceToNat, Int.reduceAdd, Int.reduceSub, Int.reduceNeg, UInt8.reduceToNat]
      refine c_thawB E [10] 0 97 (some 4) [.d .nils, .d (i64 0)] rfl rfl (by rw [mk_used]; decide) ?_
      simp only [go_sem, Nat.reduceEqDiff, Nat.reduceLT, ↓reduceIte, Nat.reduceAdd, Nat.reduceMul, Nat.reduceLeDiff, Nat.reduceSub, Nat.reduceBEq, Int.reduceEq, Int.reduceLT, Int.reduceLE, Int.reduceToNat, Int.reduceAdd, Int.reduceSub, Int.reduceNeg, UInt8.reduceToNat]
      refine loopT_e E (X := { k : Nat // k ≤ l.length }) (fun x => [(1, .d (.ptr (.agg [.sl (some 4) (ns.map nodeD), i64 root]))), (2, .bx [2] 0), (6, .mp [23]), (10, .bx [10] 0), (11, .vw [98] 0 x.1), (37, .d (.sl (some 2) (l.map spotD))), (38, .d (i64 l.length)), (39, .d (i64 x.1))])
        (fun x => [([2], .box [.d .nils, .d (i64 0)]), ([23], .map (menc spK (atM l l.length))), ([10], .box [.vw [97] 0 x.1, .d (i64 0)]), ([97], .arr (some 4) ((l.take x.1).map fun s => nodeD (splitN ns l s))), ([98], .arr none ((l.take x.1).map fun s => i64 s.2))]) [2, 23, 10, 97, 98] (fun x => l.length - x.1) ⟨0, Nat.zero_le _⟩ id ?_ ?_
      · simp only [go_sem, Nat.reduceEqDiff, Nat.reduceLT, ↓reduceIte, Nat.reduceAdd, Nat.reduceMul, Nat.reduceLeDiff, Nat.reduceSub, Nat.reduceBEq, Int.reduceEq, Int.reduceLT, Int.reduceLE, Int.reduceToNat, Int.reduceAdd, Int.reduceSub, Int.reduceNeg, UInt8.reduceToNat]
        all_goals rfl
      rintro ⟨k, hkl⟩ E1
      refine hideQ E1 fun Q2 hQ2 E' => ?_
      simp only at hkl ⊢
      simp only [go_sem, Nat.reduceEqDiff, Nat.reduceLT, ↓reduceIte, Nat.reduceAdd, Nat.reduceMul, Nat.reduceLeDiff, Nat.reduceSub, Nat.reduceBEq, Int.reduceEq, Int.reduceLT, Int.reduceLE, Int.reduceToNat, Int.reduceAdd, Int.reduceSub, Int.reduceNeg, UInt8.reduceToNat]
      refine e_ifd E' (fun h1 => ?_) (fun h1 => ?_) <;> simp only [go_sem, Nat.reduceEqDiff, Nat.reduceLT, ↓reduceIte, Nat.reduceAdd, Nat.reduceMul, Nat.reduceLeDiff, Nat.reduceSub, Nat.reduceBEq, Int.reduceEq, Int.reduceLT, Int.reduceLE, Int.reduceToNat, Int.reduceAdd, Int.reduceSub, Int.reduceNeg, UInt8.reduceToNat]
      · have h1' : k < l.length := by omega
        have hok := hl.2.1 l[k] (List.getElem_mem h1')
        have hkids := Spots.kids hl l[k] (List.getElem_mem h1')
        have hg : l.getD k (0, 0) = l[k] := by simp [h1']
        obtain ⟨⟨i, side⟩, hsp⟩ : ∃ s, s = l[k] := ⟨_, rfl⟩
        rw [← hsp] at hok hkids hg
        obtain ⟨⟨ho1, ho2⟩, ho3⟩ := hok
        simp only at ho1 ho2 ho3
        obtain ⟨x, rfl⟩ : ∃ x : Nat, i = (x : Int) := ⟨i.toNat, by omega⟩
        have hxl : x < ns.length := by omega
        have hin : nd ns x ∈ ns := by rw [nd_eq hxl]; exact List.getElem_mem hxl
        have hfl := (hs.2 _ hin).1
        have hrt := rights_nd h5 hxl
        have hkm : ∀ j, j < (kidsN (nd ns x) side).length → (kidsN (nd ns x) side).getD j (0, 0) ∈ l := fun j hj => hkids _ (by
          have : (kidsN (nd ns x) side).getD j (0, 0) = (kidsN (nd ns x) side)[j] := by simp [hj]
          rw [this]; exact List.getElem_mem hj)
        refine ⟨⟨by omega, by omega⟩, ?_⟩
        rw [spot_get h1', hg]
        simp only [go_sem, Nat.reduceEqDiff, Nat.reduceLT, ↓reduceIte, Nat.reduceAdd, Nat.reduceMul, Nat.reduceLeDiff, Nat.reduceSub, Nat.reduceBEq, Int.reduceEq, Int.reduceLT, Int.reduceLE, Int.reduceToNat, Int.reduceAdd, Int.reduceSub, Int.reduceNeg, UInt8.reduceToNat]
        refine ⟨⟨by omega, by omega⟩, ?_⟩
        rw [nodes_nd hxl]
        simp only [go_sem, Nat.reduceEqDiff, Nat.reduceLT, ↓reduceIte, Nat.reduceAdd, Nat.reduceMul, Nat.reduceLeDiff, Nat.reduceSub, Nat.reduceBEq, Int.reduceEq, Int.reduceLT, Int.reduceLE, Int.reduceToNat, Int.reduceAdd, Int.reduceSub, Int.reduceNeg, UInt8.reduceToNat]
        refine e_callO E' [.d (fldsD (nd ns x).l)] [] [] (f22_new _ hfl) rfl rfl ⟨by simp only [go_sem, Nat.reduceEqDiff, Nat.reduceLT, ↓reduceIte, Nat.reduceAdd, Nat.reduceMul, Nat.reduceLeDiff, Nat.reduceSub, Nat.reduceBEq, Int.reduceEq, Int.reduceLT, Int.reduceLE, Int.reduceToNat, Int.reduceAdd, Int.reduceSub, Int.reduceNeg, UInt8.reduceToNat], by rw [mk_used]; decide⟩ rfl (by simp only [go_sem, Nat.reduceEqDiff, Nat.reduceLT, ↓reduceIte, Nat.reduceAdd, Nat.reduceMul, Nat.reduceLeDiff, Nat.reduceSub, Nat.reduceBEq, Int.reduceEq, Int.reduceLT, Int.reduceLE, Int.reduceToNat, Int.reduceAdd, Int.reduceSub, Int.reduceNeg, UInt8.reduceToNat]) (by simp only [go_sem, Nat.reduceEqDiff, Nat.reduceLT, ↓reduceIte, Nat.reduceAdd, Nat.reduceMul, Nat.reduceLeDiff, Nat.reduceSub, Nat.reduceBEq, Int.reduceEq, Int.reduceLT, Int.reduceLE, Int.reduceToNat, Int.reduceAdd, Int.reduceSub, Int.reduceNeg, UInt8.reduceToNat]) ?_
        rintro _ _ ⟨rfl, rfl⟩
        simp only [go_sem, Nat.reduceEqDiff, Nat.reduceLT, ↓reduceIte, Nat.reduceAdd, Nat.reduceMul, Nat.reduceLeDiff, Nat.reduceSub, Nat.reduceBEq, Int.reduceEq, Int.reduceLT, Int.reduceLE, Int.reduceToNat, Int.reduceAdd, Int.reduceSub, Int.reduceNeg, UInt8.reduceToNat]
        refine e_callO E' [.d (typeS ns root), .d (.agg [i64 x, i64 side])] [] [] (f23_ok ns root x side hxl (fun n hn => (hs.2 n hn).1)) rfl rfl ⟨by simp only [go_sem, Nat.reduceEqDiff, Nat.reduceLT, ↓reduceIte, Nat.reduceAdd, Nat.reduceMul, Nat.reduceLeDiff, Nat.reduceSub, Nat.reduceBEq, Int.reduceEq, Int.reduceLT, Int.reduceLE, Int.reduceToNat, Int.reduceAdd, Int.reduceSub, Int.reduceNeg, UInt8.reduceToNat], by rw [mk_used]; decide⟩ rfl (by simp only [go_sem, Nat.reduceEqDiff, Nat.reduceLT, ↓reduceIte, Nat.reduceAdd, Nat.reduceMul, Nat.reduceLeDiff, Nat.reduceSub, Nat.reduceBEq, Int.reduceEq, Int.reduceLT, Int.reduceLE, Int.reduceToNat, Int.reduceAdd, Int.reduceSub, Int.reduceNeg, UInt8.reduceToNat]) (by simp only [go_sem, Nat.reduceEqDiff, Nat.reduceLT, ↓reduceIte, Nat.reduceAdd, Nat.reduceMul, Nat.reduceLeDiff, Nat.reduceSub, Nat.reduceBEq, Int.reduceEq, Int.reduceLT, Int.reduceLE, Int.reduceToNat, Int.reduceAdd, Int.reduceSub, Int.reduceNeg, UInt8.reduceToNat]) ?_
        rintro _ _ ⟨rfl, rfl⟩
        simp only [go_sem, Nat.reduceEqDiff, Nat.reduceLT, ↓reduceIte, Nat.reduceAdd, Nat.reduceMul, Nat.reduceLeDiff, Nat.reduceSub, Nat.reduceBEq, Int.reduceEq, Int.reduceLT, Int.reduceLE, Int.reduceToNat, Int.reduceAdd, Int.reduceSub, Int.reduceNeg, UInt8.reduceToNat]
        refine e_ifd E' (fun h8 => ?_) (fun h8 => ?_) <;> simp only [go_sem, Nat.reduceEqDiff, Nat.reduceLT, ↓reduceIte, Nat.reduceAdd, Nat.reduceMul, Nat.reduceLeDiff, Nat.reduceSub, Nat.reduceBEq, Int.reduceEq, Int.reduceLT, Int.reduceLE, Int.reduceToNat, Int.reduceAdd, Int.reduceSub, Int.reduceNeg, UInt8.reduceToNat]
        · rw [decide_eq_true h8]
          simp only [go_sem, Nat.reduceEqDiff, Nat.reduceLT, ↓reduceIte, Nat.reduceAdd, Nat.reduceMul, Nat.reduceLeDiff, Nat.reduceSub, Nat.reduceBEq, Int.reduceEq, Int.reduceLT, Int.reduceLE, Int.reduceToNat, Int.reduceAdd, Int.reduceSub, Int.reduceNeg, UInt8.reduceToNat]
          have hp : pairZ (nd ns x).k = true := by simp [pairZ, *]
          have hkl := kids_pair hp side
          refine region_xv mixed E' fun X => ?_
          simp only [go_sem, Nat.reduceEqDiff, Nat.reduceLT, ↓reduceIte, Nat.reduceAdd, Nat.reduceMul, Nat.reduceLeDiff, Nat.reduceSub, Nat.reduceBEq, Int.reduceEq, Int.reduceLT, Int.reduceLE, Int.reduceToNat, Int.reduceAdd, Int.reduceSub, Int.reduceNeg, UInt8.reduceToNat]
          refine ⟨by omega, ?_⟩
          rw [spot_get (by omega)]
          simp only [go_sem, Nat.reduceEqDiff, Nat.reduceLT, ↓reduceIte, Nat.reduceAdd, Nat.reduceMul, Nat.reduceLeDiff, Nat.reduceSub, Nat.reduceBEq, Int.reduceEq, Int.reduceLT, Int.reduceLE, Int.reduceToNat, Int.reduceAdd, Int.reduceSub, Int.reduceNeg, UInt8.reduceToNat]
          refine x_lookup X [23] (atM l l.length) ((kidsN (nd ns x) side).getD 0 (0, 0)) (i64 0) (by rw [ti53]) keySpot zero3 rfl rfl rfl (by simp) ?_
          rw [mlook_at hnd (hkm 0 (by omega))]
          simp only [go_sem, Nat.reduceEqDiff, Nat.reduceLT, ↓reduceIte, Nat.reduceAdd, Nat.reduceMul, Nat.reduceLeDiff, Nat.reduceSub, Nat.reduceBEq, Int.reduceEq, Int.reduceLT, Int.reduceLE, Int.reduceToNat, Int.reduceAdd, Int.reduceSub, Int.reduceNeg, UInt8.reduceToNat]
          refine ⟨by omega, ?_⟩
          rw [spot_get (by omega)]
          simp only [go_sem, Nat.reduceEqDiff, Nat.reduceLT, ↓reduceIte, Nat.reduceAdd, Nat.reduceMul, Nat.reduceLeDiff, Nat.reduceSub, Nat.reduceBEq, Int.reduceEq, Int.reduceLT, Int.reduceLE, Int.reduceToNat, Int.reduceAdd, Int.reduceSub, Int.reduceNeg, UInt8.reduceToNat]
          refine x_lookup X [23] (atM l l.length) ((kidsN (nd ns x) side).getD 1 (0, 0)) (i64 0) (by rw [ti53]) keySpot zero3 rfl rfl rfl (by simp) ?_
          rw [mlook_at hnd (hkm 1 (by omega))]
          simp only [go_sem, Nat.reduceEqDiff, Nat.reduceLT, ↓reduceIte, Nat.reduceAdd, Nat.reduceMul, Nat.reduceLeDiff, Nat.reduceSub, Nat.reduceBEq, Int.reduceEq, Int.reduceLT, Int.reduceLE, Int.reduceToNat, Int.reduceAdd, Int.reduceSub, Int.reduceNeg, UInt8.reduceToNat]
          refine ⟨by decide +kernel, ?_⟩
          obtain ⟨A, hA⟩ : ∃ A, A = atS l ((kidsN (nd ns x) side).getD 0 (0, 0)) := ⟨_, rfl⟩
          obtain ⟨B, hB⟩ : ∃ B, B = atS l ((kidsN (nd ns x) side).getD 1 (0, 0)) := ⟨_, rfl⟩
          rw [← hA, ← hB]
          have hsn : splitN ns l ((x : Int), side) = ⟨(nd ns x).k, A, B, fsplit ns l ((x : Int), side) (nd ns x).l.length⟩ := by
            rw [hA, hB]
            show (⟨(nd ns x).k, if pairZ (nd ns x).k then _ else _, if pairZ (nd ns x).k then _ else _, _⟩ : TN) = _
            rw [if_pos hp, if_pos hp]
            rfl
          refine loopO_e E' (X := { j : Nat // j ≤ (nd ns x).l.length }) (fun y => [(1, .d (.ptr (.agg [.sl (some 4) (ns.map nodeD), i64 root]))), (2, .bx [2] 0), (6, .mp [23]), (10, .bx [10] 0), (11, .vw [98] 0 k), (13, .bx [13] 0), (14, .bx [14] 0), (15, .vw [55, 0] 0 (kidsN (nd ns x) side).length), (37, .d (.sl (some 2) (l.map spotD))), (38, .d (i64 l.length)), (39, .d (i64 k)), (76, .d (i64 (nd ns x).l.length)), (77, .d (i64 y.1))])
            (fun y => [([2], .box [.d .nils, .d (i64 0)]), ([23], .map (menc spK (atM l l.length))), ([10], .box [.vw [97] 0 k, .d (i64 0)]), ([97], .arr (some 4) ((l.take k).map fun s => nodeD (splitN ns l s))), ([98], .arr none ((l.take k).map fun s => i64 s.2)), ([13], .box [.d (i64 x), .d (i64 side)]),
              ([14], .box [.d (i64 (nd ns x).k), .d (i64 A), .d (i64 B), .vw [51, 0] 0 (nd ns x).l.length]), ([51, 0], .arr (some 2) ((fsplit ns l ((x : Int), side) y.1).map fldD)), ([55, 0], .arr (some 2) ((kidsN (nd ns x) side).map spotD))]) [55, 51, 14, 13, 2, 23, 10, 97, 98] (fun y => (nd ns x).l.length - y.1) ⟨0, Nat.zero_le _⟩ ?_ ?_
          · simp only [go_sem, Nat.reduceEqDiff, Nat.reduceLT, ↓reduceIte, Nat.reduceAdd, Nat.reduceMul, Nat.reduceLeDiff, Nat.reduceSub, Nat.reduceBEq, Int.reduceEq, Int.reduceLT, Int.reduceLE, Int.reduceToNat, Int.reduceAdd, Int.reduceSub, Int.reduceNeg, UInt8.reduceToNat]
            rw [fsplit_zero]
            all_goals rfl
          rintro ⟨j, hj⟩ E3
          refine hideQ E3 fun Q3 hQ3 E4 => ?_
          simp only at hj ⊢
          simp only [go_sem, Nat.reduceEqDiff, Nat.reduceLT, ↓reduceIte, Nat.reduceAdd, Nat.reduceMul, Nat.reduceLeDiff, Nat.reduceSub, Nat.reduceBEq, Int.reduceEq, Int.reduceLT, Int.reduceLE, Int.reduceToNat, Int.reduceAdd, Int.reduceSub, Int.reduceNeg, UInt8.reduceToNat]
          refine e_ifd E4 (fun h11 => ?_) (fun h11 => ?_) <;> simp only [go_sem, Nat.reduceEqDiff, Nat.reduceLT, ↓reduceIte, Nat.reduceAdd, Nat.reduceMul, Nat.reduceLeDiff, Nat.reduceSub, Nat.reduceBEq, Int.reduceEq, Int.reduceLT, Int.reduceLE, Int.reduceToNat, Int.reduceAdd, Int.reduceSub, Int.reduceNeg, UInt8.reduceToNat]
          · have hj' : j < (nd ns x).l.length := by omega
            have hkw := kids_wide hrt hj' side
            refine region_xv mixed E4 fun X => ?_
            simp only [go_sem, Nat.reduceEqDiff, Nat.reduceLT, ↓reduceIte, Nat.reduceAdd, Nat.reduceMul, Nat.reduceLeDiff, Nat.reduceSub, Nat.reduceBEq, Int.reduceEq, Int.reduceLT, Int.reduceLE, Int.reduceToNat, Int.reduceAdd, Int.reduceSub, Int.reduceNeg, UInt8.reduceToNat]
            refine ⟨⟨by omega, by omega⟩, ?_⟩
            rw [spot_get (by omega)]
            simp only [go_sem, Nat.reduceEqDiff, Nat.reduceLT, ↓reduceIte, Nat.reduceAdd, Nat.reduceMul, Nat.reduceLeDiff, Nat.reduceSub, Nat.reduceBEq, Int.reduceEq, Int.reduceLT, Int.reduceLE, Int.reduceToNat, Int.reduceAdd, Int.reduceSub, Int.reduceNeg, UInt8.reduceToNat]
            refine x_lookup X [23] (atM l l.length) ((kidsN (nd ns x) side).getD j (0, 0)) (i64 0) (by rw [ti53]) keySpot zero3 rfl rfl rfl (by simp) ?_
            rw [mlook_at hnd (hkm j (by omega))]
            simp only [go_sem, Nat.reduceEqDiff, Nat.reduceLT, ↓reduceIte, Nat.reduceAdd, Nat.reduceMul, Nat.reduceLeDiff, Nat.reduceSub, Nat.reduceBEq, Int.reduceEq, Int.reduceLT, Int.reduceLE, Int.reduceToNat, Int.reduceAdd, Int.reduceSub, Int.reduceNeg, UInt8.reduceToNat]
            refine ⟨⟨by omega, by omega⟩, ?_⟩
            have hfs := fsplit_step (ns := ns) (l := l) (s := ((x : Int), side)) hj'
            have hge : ((fsplit ns l ((x : Int), side) j).map fldD).getD j .nilp = .agg [.str (fnm (nd ns x).l j), i64 ((nd ns x).l.getD j ([], 0)).2] := by
              have hl2 : j < (fsplit ns l ((x : Int), side) j).length := by rw [fsplit_len]; exact hj'
              rw [flds_get' hl2, fsplit_get hj', fnm, fsplit_get hj', fspl, if_neg (by omega)]
              rfl
            rw [hge]
            simp only [go_sem, Nat.reduceEqDiff, Nat.reduceLT, ↓reduceIte, Nat.reduceAdd, Nat.reduceMul, Nat.reduceLeDiff, Nat.reduceSub, Nat.reduceBEq, Int.reduceEq, Int.reduceLT, Int.reduceLE, Int.reduceToNat, Int.reduceAdd, Int.reduceSub, Int.reduceNeg, UInt8.reduceToNat]
            refine ⟨by decide +kernel, ?_⟩
            rw [hQ3]
            simp only [go_sem, Nat.reduceEqDiff, Nat.reduceLT, ↓reduceIte, Nat.reduceAdd, Nat.reduceMul, Nat.reduceLeDiff, Nat.reduceSub, Nat.reduceBEq, Int.reduceEq, Int.reduceLT, Int.reduceLE, Int.reduceToNat, Int.reduceAdd, Int.reduceSub, Int.reduceNeg, UInt8.reduceToNat]
            refine ⟨⟨j + 1, by omega⟩, by show (nd ns x).l.length - (j + 1) < _; omega, by rw [w64_in ⟨by omega, by omega⟩]; rfl, ?_⟩
            rw [← hfs]
            rfl
          · have hj' : j = (nd ns x).l.length := by omega
            subst hj'
            rw [hQ3]
            simp only [go_sem, Nat.reduceEqDiff, Nat.reduceLT, ↓reduceIte, Nat.reduceAdd, Nat.reduceMul, Nat.reduceLeDiff, Nat.reduceSub, Nat.reduceBEq, Int.reduceEq, Int.reduceLT, Int.reduceLE, Int.reduceToNat, Int.reduceAdd, Int.reduceSub, Int.reduceNeg, UInt8.reduceToNat]
            refine e_frz E' [51, 0] (some 2) _ rfl ?_
            simp only [go_sem, Nat.reduceEqDiff, Nat.reduceLT, ↓reduceIte, Nat.reduceAdd, Nat.reduceMul, Nat.reduceLeDiff, Nat.reduceSub, Nat.reduceBEq, Int.reduceEq, Int.reduceLT, Int.reduceLE, Int.reduceToNat, Int.reduceAdd, Int.reduceSub, Int.reduceNeg, UInt8.reduceToNat]
            refine ⟨by omega, by omega, ?_⟩
            have htk1 : List.take k (List.map (fun s => nodeD (splitN ns l s)) (List.take k l)) ++ [D.agg [i64 (nd ns x).k, i64 A, i64 B, D.sl (some 2) (List.take (nd ns x).l.length (List.map fldD (fsplit ns l ((x : Int), side) (nd ns x).l.length)))]] = List.map (fun s => nodeD (splitN ns l s)) (List.take (k + 1) l) := by
              rw [List.take_of_length_le (by simp; omega), List.take_of_length_le (l := List.map fldD _) (by simp [fsplit_len]), List.take_succ_eq_append_getElem h1', List.map_append, ← hsp, List.map_cons, List.map_nil, hsn]
              rfl
            have htk2 : List.take k (List.map (fun s : Spot => i64 s.2) (List.take k l)) ++ [i64 side] = List.map (fun s : Spot => i64 s.2) (List.take (k + 1) l) := by
              rw [List.take_of_length_le (by simp; omega), List.take_succ_eq_append_getElem h1', List.map_append, ← hsp]
              rfl
            rw [htk1, htk2, hQ2]
            simp only [go_sem, Nat.reduceEqDiff, Nat.reduceLT, ↓reduceIte, Nat.reduceAdd, Nat.reduceMul, Nat.reduceLeDiff, Nat.reduceSub, Nat.reduceBEq, Int.reduceEq, Int.reduceLT, Int.reduceLE, Int.reduceToNat, Int.reduceAdd, Int.reduceSub, Int.reduceNeg, UInt8.reduceToNat]
            refine ⟨⟨k + 1, by omega⟩, by show l.length - (k + 1) < _; omega, tau [([97], [96]), ([98], [102])], ?_⟩
            rw [w64_in ⟨by omega, by omega⟩]
            simp only [go_sem, Nat.reduceEqDiff, Nat.reduceLT, ↓reduceIte, Nat.reduceAdd, Nat.reduceMul, Nat.reduceLeDiff, Nat.reduceSub, Nat.reduceBEq, Int.reduceEq, Int.reduceLT, Int.reduceLE, Int.reduceToNat, Int.reduceAdd, Int.reduceSub, Int.reduceNeg, UInt8.reduceToNat]
            rfl
        refine e_ifd E' (fun h9 => ?_) (fun h9 => ?_) <;> simp only [go_sem, Nat.reduceEqDiff, Nat.reduceLT, ↓reduceIte, Nat.reduceAdd, Nat.reduceMul, Nat.reduceLeDiff, Nat.reduceSub, Nat.reduceBEq, Int.reduceEq, Int.reduceLT, Int.reduceLE, Int.reduceToNat, Int.reduceAdd, Int.reduceSub, Int.reduceNeg, UInt8.reduceToNat]
        · rw [decide_eq_true h9]
          simp only [go_sem, Nat.reduceEqDiff, Nat.reduceLT, ↓reduceIte, Nat.reduceAdd, Nat.reduceMul, Nat.reduceLeDiff, Nat.reduceSub, Nat.reduceBEq, Int.reduceEq, Int.reduceLT, Int.reduceLE, Int.reduceToNat, Int.reduceAdd, Int.reduceSub, Int.reduceNeg, UInt8.reduceToNat]
          have hp : pairZ (nd ns x).k = true := by simp [pairZ, *]
          have hkl := kids_pair hp side
          refine region_xv mixed E' fun X => ?_
          simp only [go_sem, Nat.reduceEqDiff, Nat.reduceLT, ↓reduceIte, Nat.reduceAdd, Nat.reduceMul, Nat.reduceLeDiff, Nat.reduceSub, Nat.reduceBEq, Int.reduceEq, Int.reduceLT, Int.reduceLE, Int.reduceToNat, Int.reduceAdd, Int.reduceSub, Int.reduceNeg, UInt8.reduceToNat]
          refine ⟨by omega, ?_⟩
          rw [spot_get (by omega)]
          simp only [go_sem, Nat.reduceEqDiff, Nat.reduceLT, ↓reduceIte, Nat.reduceAdd, Nat.reduceMul, Nat.reduceLeDiff, Nat.reduceSub, Nat.reduceBEq, Int.reduceEq, Int.reduceLT, Int.reduceLE, Int.reduceToNat, Int.reduceAdd, Int.reduceSub, Int.reduceNeg, UInt8.reduceToNat]
          refine x_lookup X [23] (atM l l.length) ((kidsN (nd ns x) side).getD 0 (0, 0)) (i64 0) (by rw [ti53]) keySpot zero3 rfl rfl rfl (by simp) ?_
          rw [mlook_at hnd (hkm 0 (by omega))]
          simp only [go_sem, Nat.reduceEqDiff, Nat.reduceLT, ↓reduceIte, Nat.reduceAdd, Nat.reduceMul, Nat.reduceLeDiff, Nat.reduceSub, Nat.reduceBEq, Int.reduceEq, Int.reduceLT, Int.reduceLE, Int.reduceToNat, Int.reduceAdd, Int.reduceSub, Int.reduceNeg, UInt8.reduceToNat]
          refine ⟨by omega, ?_⟩
          rw [spot_get (by omega)]
          simp only [go_sem, Nat.reduceEqDiff, Nat.reduceLT, ↓reduceIte, Nat.reduceAdd, Nat.reduceMul, Nat.reduceLeDiff, Nat.reduceSub, Nat.reduceBEq, Int.reduceEq, Int.reduceLT, Int.reduceLE, Int.reduceToNat, Int.reduceAdd, Int.reduceSub, Int.reduceNeg, UInt8.reduceToNat]
          refine x_lookup X [23] (atM l l.length) ((kidsN (nd ns x) side).getD 1 (0, 0)) (i64 0) (by rw [ti53]) keySpot zero3 rfl rfl rfl (by simp) ?_
          rw [mlook_at hnd (hkm 1 (by omega))]
          simp only [go_sem, Nat.reduceEqDiff, Nat.reduceLT, ↓reduceIte, Nat.reduceAdd, Nat.reduceMul, Nat.reduceLeDiff, Nat.reduceSub, Nat.reduceBEq, Int.reduceEq, Int.reduceLT, Int.reduceLE, Int.reduceToNat, Int.reduceAdd, Int.reduceSub, Int.reduceNeg, UInt8.reduceToNat]
          refine ⟨by decide +kernel, ?_⟩
          obtain ⟨A, hA⟩ : ∃ A, A = atS l ((kidsN (nd ns x) side).getD 0 (0, 0)) := ⟨_, rfl⟩
          obtain ⟨B, hB⟩ : ∃ B, B = atS l ((kidsN (nd ns x) side).getD 1 (0, 0)) := ⟨_, rfl⟩
          rw [← hA, ← hB]
          have hsn : splitN ns l ((x : Int), side) = ⟨(nd ns x).k, A, B, fsplit ns l ((x : Int), side) (nd ns x).l.length⟩ := by
            rw [hA, hB]
            show (⟨(nd ns x).k, if pairZ (nd ns x).k then _ else _, if pairZ (nd ns x).k then _ else _, _⟩ : TN) = _
            rw [if_pos hp, if_pos hp]
            rfl
          refine loopO_e E' (X := { j : Nat // j ≤ (nd ns x).l.length }) (fun y => [(1, .d (.ptr (.agg [.sl (some 4) (ns.map nodeD), i64 root]))), (2, .bx [2] 0), (6, .mp [23]), (10, .bx [10] 0), (11, .vw [98] 0 k), (13, .bx [13] 0), (14, .bx [14] 0), (15, .vw [55, 0] 0 (kidsN (nd ns x) side).length), (37, .d (.sl (some 2) (l.map spotD))), (38, .d (i64 l.length)), (39, .d (i64 k)), (76, .d (i64 (nd ns x).l.length)), (77, .d (i64 y.1))])
            (fun y => [([2], .box [.d .nils, .d (i64 0)]), ([23], .map (menc spK (atM l l.length))), ([10], .box [.vw [97] 0 k, .d (i64 0)]), ([97], .arr (some 4) ((l.take k).map fun s => nodeD (splitN ns l s))), ([98], .arr none ((l.take k).map fun s => i64 s.2)), ([13], .box [.d (i64 x), .d (i64 side)]),
              ([14], .box [.d (i64 (nd ns x).k), .d (i64 A), .d (i64 B), .vw [51, 0] 0 (nd ns x).l.length]), ([51, 0], .arr (some 2) ((fsplit ns l ((x : Int), side) y.1).map fldD)), ([55, 0], .arr (some 2) ((kidsN (nd ns x) side).map spotD))]) [55, 51, 14, 13, 2, 23, 10, 97, 98] (fun y => (nd ns x).l.length - y.1) ⟨0, Nat.zero_le _⟩ ?_ ?_
          · simp only [go_sem, Nat.reduceEqDiff, Nat.reduceLT, ↓reduceIte, Nat.reduceAdd, Nat.reduceMul, Nat.reduceLeDiff, Nat.reduceSub, Nat.reduceBEq, Int.reduceEq, Int.reduceLT, Int.reduceLE, Int.reduceToNat, Int.reduceAdd, Int.reduceSub, Int.reduceNeg, UInt8.reduceToNat]
            rw [fsplit_zero]
            all_goals rfl
          rintro ⟨j, hj⟩ E3
          refine hideQ E3 fun Q3 hQ3 E4 => ?_
          simp only at hj ⊢
          simp only [go_sem, Nat.reduceEqDiff, Nat.reduceLT, ↓reduceIte, Nat.reduceAdd, Nat.reduceMul, Nat.reduceLeDiff, Nat.reduceSub, Nat.reduceBEq, Int.reduceEq, Int.reduceLT, Int.reduceLE, Int.reduceToNat, Int.reduceAdd, Int.reduceSub, Int.reduceNeg, UInt8.reduceToNat]
          refine e_ifd E4 (fun h11 => ?_) (fun h11 => ?_) <;> simp only [go_sem, Nat.reduceEqDiff, Nat.reduceLT, ↓reduceIte, Nat.reduceAdd, Nat.reduceMul, Nat.reduceLeDiff, Nat.reduceSub, Nat.reduceBEq, Int.reduceEq, Int.reduceLT, Int.reduceLE, Int.reduceToNat, Int.reduceAdd, Int.reduceSub, Int.reduceNeg, UInt8.reduceToNat]
          · have hj' : j < (nd ns x).l.length := by omega
            have hkw := kids_wide hrt hj' side
            refine region_xv mixed E4 fun X => ?_
            simp only [go_sem, Nat.reduceEqDiff, Nat.reduceLT, ↓reduceIte, Nat.reduceAdd, Nat.reduceMul, Nat.reduceLeDiff, Nat.reduceSub, Nat.reduceBEq, Int.reduceEq, Int.reduceLT, Int.reduceLE, Int.reduceToNat, Int.reduceAdd, Int.reduceSub, Int.reduceNeg, UInt8.reduceToNat]
            refine ⟨⟨by omega, by omega⟩, ?_⟩
            rw [spot_get (by omega)]
            simp only [go_sem, Nat.reduceEqDiff, Nat.reduceLT, ↓reduceIte, Nat.reduceAdd, Nat.reduceMul, Nat.reduceLeDiff, Nat.reduceSub, Nat.reduceBEq, Int.reduceEq, Int.reduceLT, Int.reduceLE, Int.reduceToNat, Int.reduceAdd, Int.reduceSub, Int.reduceNeg, UInt8.reduceToNat]
            refine x_lookup X [23] (atM l l.length) ((kidsN (nd ns x) side).getD j (0, 0)) (i64 0) (by rw [ti53]) keySpot zero3 rfl rfl rfl (by simp) ?_
            rw [mlook_at hnd (hkm j (by omega))]
            simp only [go_sem, Nat.reduceEqDiff, Nat.reduceLT, ↓reduceIte, Nat.reduceAdd, Nat.reduceMul, Nat.reduceLeDiff, Nat.reduceSub, Nat.reduceBEq, Int.reduceEq, Int.reduceLT, Int.reduceLE, Int.reduceToNat, Int.reduceAdd, Int.reduceSub, Int.reduceNeg, UInt8.reduceToNat]
            refine ⟨⟨by omega, by omega⟩, ?_⟩
            have hfs := fsplit_step (ns := ns) (l := l) (s := ((x : Int), side)) hj'
            have hge : ((fsplit ns l ((x : Int), side) j).map fldD).getD j .nilp = .agg [.str (fnm (nd ns x).l j), i64 ((nd ns x).l.getD j ([], 0)).2] := by
              have hl2 : j < (fsplit ns l ((x : Int), side) j).length := by rw [fsplit_len]; exact hj'
              rw [flds_get' hl2, fsplit_get hj', fnm, fsplit_get hj', fspl, if_neg (by omega)]
              rfl
            rw [hge]
            simp only [go_sem, Nat.reduceEqDiff, Nat.reduceLT, ↓reduceIte, Nat.reduceAdd, Nat.reduceMul, Nat.reduceLeDiff, Nat.reduceSub, Nat.reduceBEq, Int.reduceEq, Int.reduceLT, Int.reduceLE, Int.reduceToNat, Int.reduceAdd, Int.reduceSub, Int.reduceNeg, UInt8.reduceToNat]
            refine ⟨by decide +kernel, ?_⟩
            rw [hQ3]
            simp only [go_sem, Nat.reduceEqDiff, Nat.reduceLT, ↓reduceIte, Nat.reduceAdd, Nat.reduceMul, Nat.reduceLeDiff, Nat.reduceSub, Nat.reduceBEq, Int.reduceEq, Int.reduceLT, Int.reduceLE, Int.reduceToNat, Int.reduceAdd, Int.reduceSub, Int.reduceNeg, UInt8.reduceToNat]
            refine ⟨⟨j + 1, by omega⟩, by show (nd ns x).l.length - (j + 1) < _; omega, by rw [w64_in ⟨by omega, by omega⟩]; rfl, ?_⟩
            rw [← hfs]
            rfl
          · have hj' : j = (nd ns x).l.length := by omega
            subst hj'
            rw [hQ3]
            simp only [go_sem, Nat.reduceEqDiff, Nat.reduceLT, ↓reduceIte, Nat.reduceAdd, Nat.reduceMul, Nat.reduceLeDiff, Nat.reduceSub, Nat.reduceBEq, Int.reduceEq, Int.reduceLT, Int.reduceLE, Int.reduceToNat, Int.reduceAdd, Int.reduceSub, Int.reduceNeg, UInt8.reduceToNat]
            refine e_frz E' [51, 0] (some 2) _ rfl ?_
            simp only [go_sem, Nat.reduceEqDiff, Nat.reduceLT, ↓reduceIte, Nat.reduceAdd, Nat.reduceMul, Nat.reduceLeDiff, Nat.reduceSub, Nat.reduceBEq, Int.reduceEq, Int.reduceLT, Int.reduceLE, Int.reduceToNat, Int.reduceAdd, Int.reduceSub, Int.reduceNeg, UInt8.reduceToNat]
            refine ⟨by omega, by omega, ?_⟩
            have htk1 : List.take k (List.map (fun s => nodeD (splitN ns l s)) (List.take k l)) ++ [D.agg [i64 (nd ns x).k, i64 A, i64 B, D.sl (some 2) (List.take (nd ns x).l.length (List.map fldD (fsplit ns l ((x : Int), side) (nd ns x).l.length)))]] = List.map (fun s => nodeD (splitN ns l s)) (List.take (k + 1) l) := by
              rw [List.take_of_length_le (by simp; omega), List.take_of_length_le (l := List.map fldD _) (by simp [fsplit_len]), List.take_succ_eq_append_getElem h1', List.map_append, ← hsp, List.map_cons, List.map_nil, hsn]
              rfl
            have htk2 : List.take k (List.map (fun s : Spot => i64 s.2) (List.take k l)) ++ [i64 side] = List.map (fun s : Spot => i64 s.2) (List.take (k + 1) l) := by
              rw [List.take_of_length_le (by simp; omega), List.take_succ_eq_append_getElem h1', List.map_append, ← hsp]
              rfl
            rw [htk1, htk2, hQ2]
            simp only [go_sem, Nat.reduceEqDiff, Nat.reduceLT, ↓reduceIte, Nat.reduceAdd, Nat.reduceMul, Nat.reduceLeDiff, Nat.reduceSub, Nat.reduceBEq, Int.reduceEq, Int.reduceLT, Int.reduceLE, Int.reduceToNat, Int.reduceAdd, Int.reduceSub, Int.reduceNeg, UInt8.reduceToNat]
            refine ⟨⟨k + 1, by omega⟩, by show l.length - (k + 1) < _; omega, tau [([97], [96]), ([98], [102])], ?_⟩
            rw [w64_in ⟨by omega, by omega⟩]
            simp only [go_sem, Nat.reduceEqDiff, Nat.reduceLT, ↓reduceIte, Nat.reduceAdd, Nat.reduceMul, Nat.reduceLeDiff, Nat.reduceSub, Nat.reduceBEq, Int.reduceEq, Int.reduceLT, Int.reduceLE, Int.reduceToNat, Int.reduceAdd, Int.reduceSub, Int.reduceNeg, UInt8.reduceToNat]
            rfl
        refine e_ifd E' (fun h10 => ?_) (fun h10 => ?_) <;> simp only [go_sem, Nat.reduceEqDiff, Nat.reduceLT, ↓reduceIte, Nat.reduceAdd, Nat.reduceMul, Nat.reduceLeDiff, Nat.reduceSub, Nat.reduceBEq, Int.reduceEq, Int.reduceLT, Int.reduceLE, Int.reduceToNat, Int.reduceAdd, Int.reduceSub, Int.reduceNeg, UInt8.reduceToNat]
        · have hp : pairZ (nd ns x).k = true := by simp [pairZ, *]
          have hkl := kids_pair hp side
          refine region_xv mixed E' fun X => ?_
          simp only [go_sem, Nat.reduceEqDiff, Nat.reduceLT, ↓reduceIte, Nat.reduceAdd, Nat.reduceMul, Nat.reduceLeDiff, Nat.reduceSub, Nat.reduceBEq, Int.reduceEq, Int.reduceLT, Int.reduceLE, Int.reduceToNat, Int.reduceAdd, Int.reduceSub, Int.reduceNeg, UInt8.reduceToNat]
          refine ⟨by omega, ?_⟩
          rw [spot_get (by omega)]
          simp only [go_sem, Nat.reduceEqDiff, Nat.reduceLT, ↓reduceIte, Nat.reduceAdd, Nat.reduceMul, Nat.reduceLeDiff, Nat.reduceSub, Nat.reduceBEq, Int.reduceEq, Int.reduceLT, Int.reduceLE, Int.reduceToNat, Int.reduceAdd, Int.reduceSub, Int.reduceNeg, UInt8.reduceToNat]
          refine x_lookup X [23] (atM l l.length) ((kidsN (nd ns x) side).getD 0 (0, 0)) (i64 0) (by rw [ti53]) keySpot zero3 rfl rfl rfl (by simp) ?_
          rw [mlook_at hnd (hkm 0 (by omega))]
          simp only [go_sem, Nat.reduceEqDiff, Nat.reduceLT, ↓reduceIte, Nat.reduceAdd, Nat.reduceMul, Nat.reduceLeDiff, Nat.reduceSub, Nat.reduceBEq, Int.reduceEq, Int.reduceLT, Int.reduceLE, Int.reduceToNat, Int.reduceAdd, Int.reduceSub, Int.reduceNeg, UInt8.reduceToNat]
          refine ⟨by omega, ?_⟩
          rw [spot_get (by omega)]
          simp only [go_sem, Nat.reduceEqDiff, Nat.reduceLT, ↓reduceIte, Nat.reduceAdd, Nat.reduceMul, Nat.reduceLeDiff, Nat.reduceSub, Nat.reduceBEq, Int.reduceEq, Int.reduceLT, Int.reduceLE, Int.reduceToNat, Int.reduceAdd, Int.reduceSub, Int.reduceNeg, UInt8.reduceToNat]
          refine x_lookup X [23] (atM l l.length) ((kidsN (nd ns x) side).getD 1 (0, 0)) (i64 0) (by rw [ti53]) keySpot zero3 rfl rfl rfl (by simp) ?_
          rw [mlook_at hnd (hkm 1 (by omega))]
          simp only [go_sem, Nat.reduceEqDiff, Nat.reduceLT, ↓reduceIte, Nat.reduceAdd, Nat.reduceMul, Nat.reduceLeDiff, Nat.reduceSub, Nat.reduceBEq, Int.reduceEq, Int.reduceLT, Int.reduceLE, Int.reduceToNat, Int.reduceAdd, Int.reduceSub, Int.reduceNeg, UInt8.reduceToNat]
          refine ⟨by decide +kernel, ?_⟩
          obtain ⟨A, hA⟩ : ∃ A, A = atS l ((kidsN (nd ns x) side).getD 0 (0, 0)) := ⟨_, rfl⟩
          obtain ⟨B, hB⟩ : ∃ B, B = atS l ((kidsN (nd ns x) side).getD 1 (0, 0)) := ⟨_, rfl⟩
          rw [← hA, ← hB]
          have hsn : splitN ns l ((x : Int), side) = ⟨(nd ns x).k, A, B, fsplit ns l ((x : Int), side) (nd ns x).l.length⟩ := by
            rw [hA, hB]
            show (⟨(nd ns x).k, if pairZ (nd ns x).k then _ else _, if pairZ (nd ns x).k then _ else _, _⟩ : TN) = _
            rw [if_pos hp, if_pos hp]
            rfl
          refine loopO_e E' (X := { j : Nat // j ≤ (nd ns x).l.length }) (fun y => [(1, .d (.ptr (.agg [.sl (some 4) (ns.map nodeD), i64 root]))), (2, .bx [2] 0), (6, .mp [23]), (10, .bx [10] 0), (11, .vw [98] 0 k), (13, .bx [13] 0), (14, .bx [14] 0), (15, .vw [55, 0] 0 (kidsN (nd ns x) side).length), (37, .d (.sl (some 2) (l.map spotD))), (38, .d (i64 l.length)), (39, .d (i64 k)), (76, .d (i64 (nd ns x).l.length)), (77, .d (i64 y.1))])
            (fun y => [([2], .box [.d .nils, .d (i64 0)]), ([23], .map (menc spK (atM l l.length))), ([10], .box [.vw [97] 0 k, .d (i64 0)]), ([97], .arr (some 4) ((l.take k).map fun s => nodeD (splitN ns l s))), ([98], .arr none ((l.take k).map fun s => i64 s.2)), ([13], .box [.d (i64 x), .d (i64 side)]),
              ([14], .box [.d (i64 (nd ns x).k), .d (i64 A), .d (i64 B), .vw [51, 0] 0 (nd ns x).l.length]), ([51, 0], .arr (some 2) ((fsplit ns l ((x : Int), side) y.1).map fldD)), ([55, 0], .arr (some 2) ((kidsN (nd ns x) side).map spotD))]) [55, 51, 14, 13, 2, 23, 10, 97, 98] (fun y => (nd ns x).l.length - y.1) ⟨0, Nat.zero_le _⟩ ?_ ?_
          · simp only [go_sem, Nat.reduceEqDiff, Nat.reduceLT, ↓reduceIte, Nat.reduceAdd, Nat.reduceMul, Nat.reduceLeDiff, Nat.reduceSub, Nat.reduceBEq, Int.reduceEq, Int.reduceLT, Int.reduceLE, Int.reduceToNat, Int.reduceAdd, Int.reduceSub, Int.reduceNeg, UInt8.reduceToNat]
            rw [fsplit_zero]
            all_goals rfl
          rintro ⟨j, hj⟩ E3
          refine hideQ E3 fun Q3 hQ3 E4 => ?_
          simp only at hj ⊢
          simp only [go_sem, Nat.reduceEqDiff, Nat.reduceLT, ↓reduceIte, Nat.reduceAdd, Nat.reduceMul, Nat.reduceLeDiff, Nat.reduceSub, Nat.reduceBEq, Int.reduceEq, Int.reduceLT, Int.reduceLE, Int.reduceToNat, Int.reduceAdd, Int.reduceSub, Int.reduceNeg, UInt8.reduceToNat]
          refine e_ifd E4 (fun h11 => ?_) (fun h11 => ?_) <;> simp only [go_sem, Nat.reduceEqDiff, Nat.reduceLT, ↓reduceIte, Nat.reduceAdd, Nat.reduceMul, Nat.reduceLeDiff, Nat.reduceSub, Nat.reduceBEq, Int.reduceEq, Int.reduceLT, Int.reduceLE, Int.reduceToNat, Int.reduceAdd, Int.reduceSub, Int.reduceNeg, UInt8.reduceToNat]
          · have hj' : j < (nd ns x).l.length := by omega
            have hkw := kids_wide hrt hj' side
            refine region_xv mixed E4 fun X => ?_
            simp only [go_sem, Nat.reduceEqDiff, Nat.reduceLT, ↓reduceIte, Nat.reduceAdd, Nat.reduceMul, Nat.reduceLeDiff, Nat.reduceSub, Nat.reduceBEq, Int.reduceEq, Int.reduceLT, Int.reduceLE, Int.reduceToNat, Int.reduceAdd, Int.reduceSub, Int.reduceNeg, UInt8.reduceToNat]
            refine ⟨⟨by omega, by omega⟩, ?_⟩
            rw [spot_get (by omega)]
            simp only [go_sem, Nat.reduceEqDiff, Nat.reduceLT, ↓reduceIte, Nat.reduceAdd, Nat.reduceMul, Nat.reduceLeDiff, Nat.reduceSub, Nat.reduceBEq, Int.reduceEq, Int.reduceLT, Int.reduceLE, Int.reduceToNat, Int.reduceAdd, Int.reduceSub, Int.reduceNeg, UInt8.reduceToNat]
            refine x_lookup X [23] (atM l l.length) ((kidsN (nd ns x) side).getD j (0, 0)) (i64 0) (by rw [ti53]) keySpot zero3 rfl rfl rfl (by simp) ?_
            rw [mlook_at hnd (hkm j (by omega))]
            simp only [go_sem, Nat.reduceEqDiff, Nat.reduceLT, ↓reduceIte, Nat.reduceAdd, Nat.reduceMul, Nat.reduceLeDiff, Nat.reduceSub, Nat.reduceBEq, Int.reduceEq, Int.reduceLT, Int.reduceLE, Int.reduceToNat, Int.reduceAdd, Int.reduceSub, Int.reduceNeg, UInt8.reduceToNat]
            refine ⟨⟨by omega, by omega⟩, ?_⟩
            have hfs := fsplit_step (ns := ns) (l := l) (s := ((x : Int), side)) hj'
            have hge : ((fsplit ns l ((x : Int), side) j).map fldD).getD j .nilp = .agg [.str (fnm (nd ns x).l j), i64 ((nd ns x).l.getD j ([], 0)).2] := by
              have hl2 : j < (fsplit ns l ((x : Int), side) j).length := by rw [fsplit_len]; exact hj'
              rw [flds_get' hl2, fsplit_get hj', fnm, fsplit_get hj', fspl, if_neg (by omega)]
              rfl
            rw [hge]
            simp only [go_sem, Nat.reduceEqDiff, Nat.reduceLT, ↓reduceIte, Nat.reduceAdd, Nat.reduceMul, Nat.reduceLeDiff, Nat.reduceSub, Nat.reduceBEq, Int.reduceEq, Int.reduceLT, Int.reduceLE, Int.reduceToNat, Int.reduceAdd, Int.reduceSub, Int.reduceNeg, UInt8.reduceToNat]
            refine ⟨by decide +kernel, ?_⟩
            rw [hQ3]
            simp only [go_sem, Nat.reduceEqDiff, Nat.reduceLT, ↓reduceIte, Nat.reduceAdd, Nat.reduceMul, Nat.reduceLeDiff, Nat.reduceSub, Nat.reduceBEq, Int.reduceEq, Int.reduceLT, Int.reduceLE, Int.reduceToNat, Int.reduceAdd, Int.reduceSub, Int.reduceNeg, UInt8.reduceToNat]
            refine ⟨⟨j + 1, by omega⟩, by show (nd ns x).l.length - (j + 1) < _; omega, by rw [w64_in ⟨by omega, by omega⟩]; rfl, ?_⟩
            rw [← hfs]
            rfl
          · have hj' : j = (nd ns x).l.length := by omega
            subst hj'
            rw [hQ3]
            simp only [go_sem, Nat.reduceEqDiff, Nat.reduceLT, ↓reduceIte, Nat.reduceAdd, Nat.reduceMul, Nat.reduceLeDiff, Nat.reduceSub, Nat.reduceBEq, Int.reduceEq, Int.reduceLT, Int.reduceLE, Int.reduceToNat, Int.reduceAdd, Int.reduceSub, Int.reduceNeg, UInt8.reduceToNat]
            refine e_frz E' [51, 0] (some 2) _ rfl ?_
            simp only [go_sem, Nat.reduceEqDiff, Nat.reduceLT, ↓reduceIte, Nat.reduceAdd, Nat.reduceMul, Nat.reduceLeDiff, Nat.reduceSub, Nat.reduceBEq, Int.reduceEq, Int.reduceLT, Int.reduceLE, Int.reduceToNat, Int.reduceAdd, Int.reduceSub, Int.reduceNeg, UInt8.reduceToNat]
            refine ⟨by omega, by omega, ?_⟩
            have htk1 : List.take k (List.map (fun s => nodeD (splitN ns l s)) (List.take k l)) ++ [D.agg [i64 (nd ns x).k, i64 A, i64 B, D.sl (some 2) (List.take (nd ns x).l.length (List.map fldD (fsplit ns l ((x : Int), side) (nd ns x).l.length)))]] = List.map (fun s => nodeD (splitN ns l s)) (List.take (k + 1) l) := by
              rw [List.take_of_length_le (by simp; omega), List.take_of_length_le (l := List.map fldD _) (by simp [fsplit_len]), List.take_succ_eq_append_getElem h1', List.map_append, ← hsp, List.map_cons, List.map_nil, hsn]
              rfl
            have htk2 : List.take k (List.map (fun s : Spot => i64 s.2) (List.take k l)) ++ [i64 side] = List.map (fun s : Spot => i64 s.2) (List.take (k + 1) l) := by
              rw [List.take_of_length_le (by simp; omega), List.take_succ_eq_append_getElem h1', List.map_append, ← hsp]
              rfl
            rw [htk1, htk2, hQ2]
            simp only [go_sem, Nat.reduceEqDiff, Nat.reduceLT, ↓reduceIte, Nat.reduceAdd, Nat.reduceMul, Nat.reduceLeDiff, Nat.reduceSub, Nat.reduceBEq, Int.reduceEq, Int.reduceLT, Int.reduceLE, Int.reduceToNat, Int.reduceAdd, Int.reduceSub, Int.reduceNeg, UInt8.reduceToNat]
            refine ⟨⟨k + 1, by omega⟩, by show l.length - (k + 1) < _; omega, tau [([97], [96]), ([98], [102])], ?_⟩
            rw [w64_in ⟨by omega, by omega⟩]
            simp only [go_sem, Nat.reduceEqDiff, Nat.reduceLT, ↓reduceIte, Nat.reduceAdd, Nat.reduceMul, Nat.reduceLeDiff, Nat.reduceSub, Nat.reduceBEq, Int.reduceEq, Int.reduceLT, Int.reduceLE, Int.reduceToNat, Int.reduceAdd, Int.reduceSub, Int.reduceNeg, UInt8.reduceToNat]
            rfl
        · have hp : pairZ (nd ns x).k = false := by simp [pairZ, *]
          obtain ⟨A, hA⟩ : ∃ A, A = (nd ns x).a := ⟨_, rfl⟩
          obtain ⟨B, hB⟩ : ∃ B, B = (nd ns x).b := ⟨_, rfl⟩
          rw [← hA, ← hB]
          have hsn : splitN ns l ((x : Int), side) = ⟨(nd ns x).k, A, B, fsplit ns l ((x : Int), side) (nd ns x).l.length⟩ := by
            rw [hA, hB]
            show (⟨(nd ns x).k, if pairZ (nd ns x).k then _ else _, if pairZ (nd ns x).k then _ else _, _⟩ : TN) = _
            rw [hp]
            rfl
          refine loopO_e E' (X := { j : Nat // j ≤ (nd ns x).l.length }) (fun y => [(1, .d (.ptr (.agg [.sl (some 4) (ns.map nodeD), i64 root]))), (2, .bx [2] 0), (6, .mp [23]), (10, .bx [10] 0), (11, .vw [98] 0 k), (13, .bx [13] 0), (14, .bx [14] 0), (15, .vw [55, 0] 0 (kidsN (nd ns x) side).length), (37, .d (.sl (some 2) (l.map spotD))), (38, .d (i64 l.length)), (39, .d (i64 k)), (76, .d (i64 (nd ns x).l.length)), (77, .d (i64 y.1))])
            (fun y => [([2], .box [.d .nils, .d (i64 0)]), ([23], .map (menc spK (atM l l.length))), ([10], .box [.vw [97] 0 k, .d (i64 0)]), ([97], .arr (some 4) ((l.take k).map fun s => nodeD (splitN ns l s))), ([98], .arr none ((l.take k).map fun s => i64 s.2)), ([13], .box [.d (i64 x), .d (i64 side)]),
              ([14], .box [.d (i64 (nd ns x).k), .d (i64 A), .d (i64 B), .vw [51, 0] 0 (nd ns x).l.length]), ([51, 0], .arr (some 2) ((fsplit ns l ((x : Int), side) y.1).map fldD)), ([55, 0], .arr (some 2) ((kidsN (nd ns x) side).map spotD))]) [55, 51, 14, 13, 2, 23, 10, 97, 98] (fun y => (nd ns x).l.length - y.1) ⟨0, Nat.zero_le _⟩ ?_ ?_
          · simp only [go_sem, Nat.reduceEqDiff, Nat.reduceLT, ↓reduceIte, Nat.reduceAdd, Nat.reduceMul, Nat.reduceLeDiff, Nat.reduceSub, Nat.reduceBEq, Int.reduceEq, Int.reduceLT, Int.reduceLE, Int.reduceToNat, Int.reduceAdd, Int.reduceSub, Int.reduceNeg, UInt8.reduceToNat]
            rw [fsplit_zero]
            all_goals rfl
          rintro ⟨j, hj⟩ E3
          refine hideQ E3 fun Q3 hQ3 E4 => ?_
          simp only at hj ⊢
          simp only [go_sem, Nat.reduceEqDiff, Nat.reduceLT, ↓reduceIte, Nat.reduceAdd, Nat.reduceMul, Nat.reduceLeDiff, Nat.reduceSub, Nat.reduceBEq, Int.reduceEq, Int.reduceLT, Int.reduceLE, Int.reduceToNat, Int.reduceAdd, Int.reduceSub, Int.reduceNeg, UInt8.reduceToNat]
          refine e_ifd E4 (fun h11 => ?_) (fun h11 => ?_) <;> simp only [go_sem, Nat.reduceEqDiff, Nat.reduceLT, ↓reduceIte, Nat.reduceAdd, Nat.reduceMul, Nat.reduceLeDiff, Nat.reduceSub, Nat.reduceBEq, Int.reduceEq, Int.reduceLT, Int.reduceLE, Int.reduceToNat, Int.reduceAdd, Int.reduceSub, Int.reduceNeg, UInt8.reduceToNat]
          · have hj' : j < (nd ns x).l.length := by omega
            have hkw := kids_wide hrt hj' side
            refine region_xv mixed E4 fun X => ?_
            simp only [go_sem, Nat.reduceEqDiff, Nat.reduceLT, ↓reduceIte, Nat.reduceAdd, Nat.reduceMul, Nat.reduceLeDiff, Nat.reduceSub, Nat.reduceBEq, Int.reduceEq, Int.reduceLT, Int.reduceLE, Int.reduceToNat, Int.reduceAdd, Int.reduceSub, Int.reduceNeg, UInt8.reduceToNat]
            refine ⟨⟨by omega, by omega⟩, ?_⟩
            rw [spot_get (by omega)]
            simp only [go_sem, Nat.reduceEqDiff, Nat.reduceLT, ↓reduceIte, Nat.reduceAdd, Nat.reduceMul, Nat.reduceLeDiff, Nat.reduceSub, Nat.reduceBEq, Int.reduceEq, Int.reduceLT, Int.reduceLE, Int.reduceToNat, Int.reduceAdd, Int.reduceSub, Int.reduceNeg, UInt8.reduceToNat]
            refine x_lookup X [23] (atM l l.length) ((kidsN (nd ns x) side).getD j (0, 0)) (i64 0) (by rw [ti53]) keySpot zero3 rfl rfl rfl (by simp) ?_
            rw [mlook_at hnd (hkm j (by omega))]
            simp only [go_sem, Nat.reduceEqDiff, Nat.reduceLT, ↓reduceIte, Nat.reduceAdd, Nat.reduceMul, Nat.reduceLeDiff, Nat.reduceSub, Nat.reduceBEq, Int.reduceEq, Int.reduceLT, Int.reduceLE, Int.reduceToNat, Int.reduceAdd, Int.reduceSub, Int.reduceNeg, UInt8.reduceToNat]
            refine ⟨⟨by omega, by omega⟩, ?_⟩
            have hfs := fsplit_step (ns := ns) (l := l) (s := ((x : Int), side)) hj'
            have hge : ((fsplit ns l ((x : Int), side) j).map fldD).getD j .nilp = .agg [.str (fnm (nd ns x).l j), i64 ((nd ns x).l.getD j ([], 0)).2] := by
              have hl2 : j < (fsplit ns l ((x : Int), side) j).length := by rw [fsplit_len]; exact hj'
              rw [flds_get' hl2, fsplit_get hj', fnm, fsplit_get hj', fspl, if_neg (by omega)]
              rfl
            rw [hge]
            simp only [go_sem, Nat.reduceEqDiff, Nat.reduceLT, ↓reduceIte, Nat.reduceAdd, Nat.reduceMul, Nat.reduceLeDiff, Nat.reduceSub, Nat.reduceBEq, Int.reduceEq, Int.reduceLT, Int.reduceLE, Int.reduceToNat, Int.reduceAdd, Int.reduceSub, Int.reduceNeg, UInt8.reduceToNat]
            refine ⟨by decide +kernel, ?_⟩
            rw [hQ3]
            simp only [go_sem, Nat.reduceEqDiff, Nat.reduceLT, ↓reduceIte, Nat.reduceAdd, Nat.reduceMul, Nat.reduceLeDiff, Nat.reduceSub, Nat.reduceBEq, Int.reduceEq, Int.reduceLT, Int.reduceLE, Int.reduceToNat, Int.reduceAdd, Int.reduceSub, Int.reduceNeg, UInt8.reduceToNat]
            refine ⟨⟨j + 1, by omega⟩, by show (nd ns x).l.length - (j + 1) < _; omega, by rw [w64_in ⟨by omega, by omega⟩]; rfl, ?_⟩
            rw [← hfs]
            rfl
          · have hj' : j = (nd ns x).l.length := by omega
            subst hj'
            rw [hQ3]
            simp only [go_sem, Nat.reduceEqDiff, Nat.reduceLT, ↓reduceIte, Nat.reduceAdd, Nat.reduceMul, Nat.reduceLeDiff, Nat.reduceSub, Nat.reduceBEq, Int.reduceEq, Int.reduceLT, Int.reduceLE, Int.reduceToNat, Int.reduceAdd, Int.reduceSub, Int.reduceNeg, UInt8.reduceToNat]
            refine e_frz E' [51, 0] (some 2) _ rfl ?_
            simp only [go_sem, Nat.reduceEqDiff, Nat.reduceLT, ↓reduceIte, Nat.reduceAdd, Nat.reduceMul, Nat.reduceLeDiff, Nat.reduceSub, Nat.reduceBEq, Int.reduceEq, Int.reduceLT, Int.reduceLE, Int.reduceToNat, Int.reduceAdd, Int.reduceSub, Int.reduceNeg, UInt8.reduceToNat]
            refine ⟨by omega, by omega, ?_⟩
            have htk1 : List.take k (List.map (fun s => nodeD (splitN ns l s)) (List.take k l)) ++ [D.agg [i64 (nd ns x).k, i64 A, i64 B, D.sl (some 2) (List.take (nd ns x).l.length (List.map fldD (fsplit ns l ((x : Int), side) (nd ns x).l.length)))]] = List.map (fun s => nodeD (splitN ns l s)) (List.take (k + 1) l) := by
              rw [List.take_of_length_le (by simp; omega), List.take_of_length_le (l := List.map fldD _) (by simp [fsplit_len]), List.take_succ_eq_append_getElem h1', List.map_append, ← hsp, List.map_cons, List.map_nil, hsn]
              rfl
            have htk2 : List.take k (List.map (fun s : Spot => i64 s.2) (List.take k l)) ++ [i64 side] = List.map (fun s : Spot => i64 s.2) (List.take (k + 1) l) := by
              rw [List.take_of_length_le (by simp; omega), List.take_succ_eq_append_getElem h1', List.map_append, ← hsp]
              rfl
            rw [htk1, htk2, hQ2]
            simp only [go_sem, Nat.reduceEqDiff, Nat.reduceLT, ↓reduceIte, Nat.reduceAdd, Nat.reduceMul, Nat.reduceLeDiff, Nat.reduceSub, Nat.reduceBEq, Int.reduceEq, Int.reduceLT, Int.reduceLE, Int.reduceToNat, Int.reduceAdd, Int.reduceSub, Int.reduceNeg, UInt8.reduceToNat]
            refine ⟨⟨k + 1, by omega⟩, by show l.length - (k + 1) < _; omega, tau [([97], [96]), ([98], [102])], ?_⟩
            rw [w64_in ⟨by omega, by omega⟩]
            simp only [go_sem, Nat.reduceEqDiff, Nat.reduceLT, ↓reduceIte, Nat.reduceAdd, Nat.reduceMul, Nat.reduceLeDiff, Nat.reduceSub, Nat.reduceBEq, Int.reduceEq, Int.reduceLT, Int.reduceLE, Int.reduceToNat, Int.reduceAdd, Int.reduceSub, Int.reduceNeg, UInt8.reduceToNat]
            rfl
      · rw [hQ2]
        simp only [go_sem, Nat.reduceEqDiff, Nat.reduceLT, ↓reduceIte, Nat.reduceAdd, Nat.reduceMul, Nat.reduceLeDiff, Nat.reduceSub, Nat.reduceBEq, Int.reduceEq, Int.reduceLT, Int.reduceLE, Int.reduceToNat, Int.reduceAdd, Int.reduceSub, Int.reduceNeg, UInt8.reduceToNat]
        have hkl' : k = l.length := by omega
        subst hkl'
        rw [List.take_length]
        refine ⟨[([97], some 4, l.map fun s => nodeD (splitN ns l s)), ([98], none, l.map fun s => i64 s.2)], ?_⟩
        simp only [go_sem, Nat.reduceEqDiff, Nat.reduceLT, ↓reduceIte, Nat.reduceAdd, Nat.reduceMul, Nat.reduceLeDiff, Nat.reduceSub, Nat.reduceBEq, Int.reduceEq, Int.reduceLT, Int.reduceLE, Int.reduceToNat, Int.reduceAdd, Int.reduceSub, Int.reduceNeg, UInt8.reduceToNat]
        refine .inr ⟨by assumption, l, ?_, hl⟩
        simp only [typeS, intsD, List.map_map, Function.comp_def]
end Go.Proofs.Ytmplpdjddjiioaa
