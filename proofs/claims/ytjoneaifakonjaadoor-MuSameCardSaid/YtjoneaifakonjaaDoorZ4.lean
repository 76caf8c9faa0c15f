/-
  A type in order: the program's answer.
-/
import Derived.Test.YtjoneaifakonjaaDoorZ3
set_option linter.all false
namespace Go.Proofs.YtjoneaifakonjaaDoor
open Go.Ab
theorem f17_ok {G} (l : List Int) (x : Int) (clk : Nat) (bs : List Nat) (hn : l.Nodup) (hx : x ∈ l) : HP Tryd.prog G 17 [i64 x, .ptr (mpD clk bs (menc (fun n : Int => i64 n) (atMs l l.length)))] (fun r => r = .d (i64 (atI l x))) := by
  refine funZ_ok Tryd.func17 rfl (by decide +kernel) (by simp [Tryd.ntmps17]) (veil fun E => ?_)
  unfold mpD
  simp only [go_sem, Nat.reduceEqDiff, Nat.reduceLT, ↓reduceIte, Nat.reduceAdd, Nat.reduceMul, Nat.reduceLeDiff, Nat.reduceSub, Nat.reduceBEq, Int.reduceEq, Int.reduceLT, Int.reduceLE, Int.reduceToNat, Int.reduceAdd, Int.reduceSub, Int.reduceNeg, UInt8.reduceToNat]
  refine e_lookupD E clk bs (atMs l l.length) x (i64 0) (by rw [ti40]) keyI zero3 rfl rfl (by simp) ?_
  rw [atMs_look hn (Nat.le_refl _) x (List.idxOf_lt_length_of_mem hx)]
  simp only [go_sem, Nat.reduceEqDiff, Nat.reduceLT, ↓reduceIte, Nat.reduceAdd, Nat.reduceMul, Nat.reduceLeDiff, Nat.reduceSub, Nat.reduceBEq, Int.reduceEq, Int.reduceLT, Int.reduceLE, Int.reduceToNat, Int.reduceAdd, Int.reduceSub, Int.reduceNeg, UInt8.reduceToNat]
  exact ⟨[], by simp only [go_sem, Nat.reduceEqDiff, Nat.reduceLT, ↓reduceIte, Nat.reduceAdd, Nat.reduceMul, Nat.reduceLeDiff, Nat.reduceSub, Nat.reduceBEq, Int.reduceEq, Int.reduceLT, Int.reduceLE, Int.reduceToNat, Int.reduceAdd, Int.reduceSub, Int.reduceNeg, UInt8.reduceToNat]; rfl⟩
def normP (ns : List TN) (l : List Int) (x : Int) : TN := movN (atI l) (nd ns x.toNat)
def nO (ns : List TN) (r0 : Int) (l : List Int) (n : Nat) : List (Name × Ob) := [([2], .box [.d (.sl (some 4) (ns.map nodeD)), .d (i64 r0)]), ([4], .box [.d .nils, .d (i64 0)]), ([5], .box [.mp [11]]), ([11], .map (menc (fun n : Int => i64 n) (atMs l n))), ([6], .box [.vw [99] 0 n]), ([99], .arr none ((l.take n).map i64))]
theorem f9_ok {G} (ns : List TN) (r0 root : Int) (l : List Int) (hN : ns.length ≤ 4000) (hfl : ∀ n ∈ ns, n.l.length ≤ 1000000) (hk : KidIn ns) (hr : okI ns root) (hl : Belw ns root l) (hwd : ∀ x, x < ns.length → ∀ i, i < (nd ns x).l.length → ((nd ns x).l.getD i ([], 0)).2 ∈ kidsL (nd ns x)) :
    HP Tryd.prog G 9 [typeS ns r0, i64 root] (fun r => r = .d (typeS (l.map (normP ns l)) 0)) := by
  refine funR_ok Tryd.func9 rfl (by decide +kernel) (by simp [Tryd.ntmps9]) fun B0 hB0 => ?_
  unfold typeS
  have hnd : l.Nodup := hl.1.nodup (by simp)
  have hcl : ∀ a ∈ l, ∀ b ∈ kidsI ns a, b ∈ l := hl.1.closed (by simp)
  have hll := hl.2.2
  refine Y_seq (Y_codeE fun E => ?_)
  simp only [go_sem, Nat.reduceEqDiff, Nat.reduceLT, ↓reduceIte, Nat.reduceAdd, Nat.reduceMul, Nat.reduceLeDiff, Nat.reduceSub, Nat.reduceBEq, Int.reduceEq, Int.reduceLT, Int.reduceLE, Int.reduceToNat, Int.reduceAdd, Int.reduceSub, Int.reduceNeg, UInt8.reduceToNat]
  refine Y_seq (Y_codeE fun E => ?_)
  simp only [go_sem, Nat.reduceEqDiff, Nat.reduceLT, ↓reduceIte, Nat.reduceAdd, Nat.reduceMul, Nat.reduceLeDiff, Nat.reduceSub, Nat.reduceBEq, Int.reduceEq, Int.reduceLT, Int.reduceLE, Int.reduceToNat, Int.reduceAdd, Int.reduceSub, Int.reduceNeg, UInt8.reduceToNat]
  refine e_makeMap E (by simp only [go_sem, Nat.reduceEqDiff, Nat.reduceLT, ↓reduceIte, Nat.reduceAdd, Nat.reduceMul, Nat.reduceLeDiff, Nat.reduceSub, Nat.reduceBEq, Int.reduceEq, Int.reduceLT, Int.reduceLE, Int.reduceToNat, Int.reduceAdd, Int.reduceSub, Int.reduceNeg, UInt8.reduceToNat]) (by rw [mk_used]; decide) ?_
  simp only [go_sem, Nat.reduceEqDiff, Nat.reduceLT, ↓reduceIte, Nat.reduceAdd, Nat.reduceMul, Nat.reduceLeDiff, Nat.reduceSub, Nat.reduceBEq, Int.reduceEq, Int.reduceLT, Int.reduceLE, Int.reduceToNat, Int.reduceAdd, Int.reduceSub, Int.reduceNeg, UInt8.reduceToNat]
  refine Y_seq (Y_codeE fun E => ?_)
  simp only [go_sem, Nat.reduceEqDiff, Nat.reduceLT, ↓reduceIte, Nat.reduceAdd, Nat.reduceMul, Nat.reduceLeDiff, Nat.reduceSub, Nat.reduceBEq, Int.reduceEq, Int.reduceLT, Int.reduceLE, Int.reduceToNat, Int.reduceAdd, Int.reduceSub, Int.reduceNeg, UInt8.reduceToNat]
  refine Y_seq (Y_seq (Y_codeE fun E => ?_))
  simp only [go_sem, Nat.reduceEqDiff, Nat.reduceLT, ↓reduceIte, Nat.reduceAdd, Nat.reduceMul, Nat.reduceLeDiff, Nat.reduceSub, Nat.reduceBEq, Int.reduceEq, Int.reduceLT, Int.reduceLE, Int.reduceToNat, Int.reduceAdd, Int.reduceSub, Int.reduceNeg, UInt8.reduceToNat]
  refine e_call E (f15_ok ns r0 root) rfl rfl (by simp) ?_
  rintro _ rfl
  simp only [go_sem, Nat.reduceEqDiff, Nat.reduceLT, ↓reduceIte, Nat.reduceAdd, Nat.reduceMul, Nat.reduceLeDiff, Nat.reduceSub, Nat.reduceBEq, Int.reduceEq, Int.reduceLT, Int.reduceLE, Int.reduceToNat, Int.reduceAdd, Int.reduceSub, Int.reduceNeg, UInt8.reduceToNat]
  refine Y_thawB [6] 0 99 none [.d .nils] rfl rfl (by rw [mk_used]; decide) ?_
  simp only [go_sem, Nat.reduceEqDiff, Nat.reduceLT, ↓reduceIte, Nat.reduceAdd, Nat.reduceMul, Nat.reduceLeDiff, Nat.reduceSub, Nat.reduceBEq, Int.reduceEq, Int.reduceLT, Int.reduceLE, Int.reduceToNat, Int.reduceAdd, Int.reduceSub, Int.reduceNeg, UInt8.reduceToNat]
  refine Y_block (Y_range rfl (f31_it ns r0 root l hN hfl hk hr hl) rfl (X := Unit) (fun n _ => mk [(2, .bx [2] 0), (4, .bx [4] 0), (5, .bx [5] 0), (6, .bx [6] 0)] (nO ns r0 l n) [2, 4, 5, 11, 6, 99]) (by simp) (fun n hn => rfl) ⟨(), id, LeL.le ?_⟩ ?_ ?_)
  · unfold nO
    simp only [go_sem, Nat.reduceEqDiff, Nat.reduceLT, ↓reduceIte, Nat.reduceAdd, Nat.reduceMul, Nat.reduceLeDiff, Nat.reduceSub, Nat.reduceBEq, Int.reduceEq, Int.reduceLT, Int.reduceLE, Int.reduceToNat, Int.reduceAdd, Int.reduceSub, Int.reduceNeg, UInt8.reduceToNat]
    all_goals rfl
  · rintro n ⟨⟩ hn lb
    unfold nO
    refine veil fun E => ?_
    simp only [go_sem, Nat.reduceEqDiff, Nat.reduceLT, ↓reduceIte, Nat.reduceAdd, Nat.reduceMul, Nat.reduceLeDiff, Nat.reduceSub, Nat.reduceBEq, Int.reduceEq, Int.reduceLT, Int.reduceLE, Int.reduceToNat, Int.reduceAdd, Int.reduceSub, Int.reduceNeg, UInt8.reduceToNat]
    refine asgE fun E => ?_
    simp only [go_sem, Nat.reduceEqDiff, Nat.reduceLT, ↓reduceIte, Nat.reduceAdd, Nat.reduceMul, Nat.reduceLeDiff, Nat.reduceSub, Nat.reduceBEq, Int.reduceEq, Int.reduceLT, Int.reduceLE, Int.reduceToNat, Int.reduceAdd, Int.reduceSub, Int.reduceNeg, UInt8.reduceToNat]
    have hlt : (l.take n).length = n := by simp; omega
    refine e_mapUpdate E [11] (atMs l n) (l.getD n 0) (i64 (n : Nat)) (by rw [ti40]) keyI rfl rfl rfl rfl rfl ?_
    rw [atMs_new hnd hn]
    simp only [go_sem, Nat.reduceEqDiff, Nat.reduceLT, ↓reduceIte, Nat.reduceAdd, Nat.reduceMul, Nat.reduceLeDiff, Nat.reduceSub, Nat.reduceBEq, Int.reduceEq, Int.reduceLT, Int.reduceLE, Int.reduceToNat, Int.reduceAdd, Int.reduceSub, Int.reduceNeg, UInt8.reduceToNat]
    have htk : List.take n (List.map i64 (List.take n l)) ++ [i64 (l.getD n 0)] = List.map i64 (List.take (n + 1) l) := by
      rw [List.take_of_length_le (by simp; omega), List.take_succ_eq_append_getElem hn, List.map_append]
      simp [hn]
    rw [htk]
    refine ⟨by omega, ?_⟩
    refine rq_mk ?_ () (tau [([99], [23])]) rfl ?_
    · simp only [go_sem, Nat.reduceEqDiff, Nat.reduceLT, ↓reduceIte, Nat.reduceAdd, Nat.reduceMul, Nat.reduceLeDiff, Nat.reduceSub, Nat.reduceBEq, Int.reduceEq, Int.reduceLT, Int.reduceLE, Int.reduceToNat, Int.reduceAdd, Int.reduceSub, Int.reduceNeg, UInt8.reduceToNat]
    · simp only [go_sem, Nat.reduceEqDiff, Nat.reduceLT, ↓reduceIte, Nat.reduceAdd, Nat.reduceMul, Nat.reduceLeDiff, Nat.reduceSub, Nat.reduceBEq, Int.reduceEq, Int.reduceLT, Int.reduceLE, Int.reduceToNat, Int.reduceAdd, Int.reduceSub, Int.reduceNeg, UInt8.reduceToNat]
  · rintro ⟨⟩
    refine Y_blk ?_
    unfold nO
    rw [List.take_length]
    refine Y_frM [11] _ rfl fun clk bs hst => ?_
    simp only [go_sem, Nat.reduceEqDiff, Nat.reduceLT, ↓reduceIte, Nat.reduceAdd, Nat.reduceMul, Nat.reduceLeDiff, Nat.reduceSub, Nat.reduceBEq, Int.reduceEq, Int.reduceLT, Int.reduceLE, Int.reduceToNat, Int.reduceAdd, Int.reduceSub, Int.reduceNeg, UInt8.reduceToNat]
    refine Y_frB [5] (mpD clk bs (menc (fun n => i64 n) (atMs l l.length))) rfl rfl ?_
    simp only [go_sem, Nat.reduceEqDiff, Nat.reduceLT, ↓reduceIte, Nat.reduceAdd, Nat.reduceMul, Nat.reduceLeDiff, Nat.reduceSub, Nat.reduceBEq, Int.reduceEq, Int.reduceLT, Int.reduceLE, Int.reduceToNat, Int.reduceAdd, Int.reduceSub, Int.reduceNeg, UInt8.reduceToNat]
    refine Y_frA [99] none (l.map i64) rfl ?_
    simp only [go_sem, Nat.reduceEqDiff, Nat.reduceLT, ↓reduceIte, Nat.reduceAdd, Nat.reduceMul, Nat.reduceLeDiff, Nat.reduceSub, Nat.reduceBEq, Int.reduceEq, Int.reduceLT, Int.reduceLE, Int.reduceToNat, Int.reduceAdd, Int.reduceSub, Int.reduceNeg, UInt8.reduceToNat]
    refine Y_frB [2] (.agg [.sl (some 4) (ns.map nodeD), i64 r0]) rfl rfl ?_
    simp only [go_sem, Nat.reduceEqDiff, Nat.reduceLT, ↓reduceIte, Nat.reduceAdd, Nat.reduceMul, Nat.reduceLeDiff, Nat.reduceSub, Nat.reduceBEq, Int.reduceEq, Int.reduceLT, Int.reduceLE, Int.reduceToNat, Int.reduceAdd, Int.reduceSub, Int.reduceNeg, UInt8.reduceToNat]
    refine Y_codeE fun E => ?_
    simp only [go_sem, Nat.reduceEqDiff, Nat.reduceLT, ↓reduceIte, Nat.reduceAdd, Nat.reduceMul, Nat.reduceLeDiff, Nat.reduceSub, Nat.reduceBEq, Int.reduceEq, Int.reduceLT, Int.reduceLE, Int.reduceToNat, Int.reduceAdd, Int.reduceSub, Int.reduceNeg, UInt8.reduceToNat]
    refine c_thawB E [8] 0 97 (some 4) [.d .nils, .d (i64 0)] rfl rfl (by rw [mk_used]; decide) ?_
    simp only [go_sem, Nat.reduceEqDiff, Nat.reduceLT, ↓reduceIte, Nat.reduceAdd, Nat.reduceMul, Nat.reduceLeDiff, Nat.reduceSub, Nat.reduceBEq, Int.reduceEq, Int.reduceLT, Int.reduceLE, Int.reduceToNat, Int.reduceAdd, Int.reduceSub, Int.reduceNeg, UInt8.reduceToNat]
    obtain ⟨M, hM⟩ : ∃ M, M = mpD clk bs (menc (fun n : Int => i64 n) (atMs l l.length)) := ⟨_, rfl⟩
    rw [← hM]
    refine loopT_e E (X := { k : Nat // k ≤ l.length }) (fun x => [(2, .d (.ptr (.agg [.sl (some 4) (ns.map nodeD), i64 r0]))), (4, .bx [4] 0), (5, .d (.ptr M)), (8, .bx [8] 0), (24, .d (.sl none (l.map i64))), (25, .d (i64 l.length)), (26, .d (i64 x.1))])
      (fun x => [([4], .box [.d .nils, .d (i64 0)]), ([8], .box [.vw [97] 0 x.1, .d (i64 0)]), ([97], .arr (some 4) ((l.take x.1).map fun s => nodeD (normP ns l s)))]) [4, 8, 97] (fun x => l.length - x.1) ⟨0, Nat.zero_le _⟩ id ?_ ?_
    · simp only [go_sem, Nat.reduceEqDiff, Nat.reduceLT, ↓reduceIte, Nat.reduceAdd, Nat.reduceMul, Nat.reduceLeDiff, Nat.reduceSub, Nat.reduceBEq, Int.reduceEq, Int.reduceLT, Int.reduceLE, Int.reduceToNat, Int.reduceAdd, Int.reduceSub, Int.reduceNeg, UInt8.reduceToNat]
      all_goals rfl
    rintro ⟨k, hkl⟩ E0
    refine hideQ E0 fun Q' hQ E' => ?_
    simp only at hkl ⊢
    simp only [go_sem, Nat.reduceEqDiff, Nat.reduceLT, ↓reduceIte, Nat.reduceAdd, Nat.reduceMul, Nat.reduceLeDiff, Nat.reduceSub, Nat.reduceBEq, Int.reduceEq, Int.reduceLT, Int.reduceLE, Int.reduceToNat, Int.reduceAdd, Int.reduceSub, Int.reduceNeg, UInt8.reduceToNat]
    refine e_ifd E' (fun h1 => ?_) (fun h1 => ?_) <;> simp only [go_sem, Nat.reduceEqDiff, Nat.reduceLT, ↓reduceIte, Nat.reduceAdd, Nat.reduceMul, Nat.reduceLeDiff, Nat.reduceSub, Nat.reduceBEq, Int.reduceEq, Int.reduceLT, Int.reduceLE, Int.reduceToNat, Int.reduceAdd, Int.reduceSub, Int.reduceNeg, UInt8.reduceToNat]
    · have h1' : k < l.length := by omega
      obtain ⟨x, hx⟩ : ∃ x : Nat, l.getD k 0 = (x : Int) := by
        have := hl.2.1 (l.getD k 0) (by simp [h1'])
        exact ⟨(l.getD k 0).toNat, by have := this.1; omega⟩
      have hxm : (x : Int) ∈ l := by rw [← hx]; simp [h1']
      have hxl : x < ns.length := by have := (hl.2.1 _ hxm).2; omega
      have hin : nd ns x ∈ ns := by rw [nd_eq hxl]; exact List.getElem_mem hxl
      refine ⟨⟨by omega, by omega⟩, ?_⟩
      have hgx : (l.map i64).getD k .nilp = i64 x := by rw [ints_getD h1', hx]
      rw [hgx]
      simp only [go_sem, Nat.reduceEqDiff, Nat.reduceLT, ↓reduceIte, Nat.reduceAdd, Nat.reduceMul, Nat.reduceLeDiff, Nat.reduceSub, Nat.reduceBEq, Int.reduceEq, Int.reduceLT, Int.reduceLE, Int.reduceToNat, Int.reduceAdd, Int.reduceSub, Int.reduceNeg, UInt8.reduceToNat]
      refine region_xv mixed E' fun X => ?_
      simp only [go_sem, Nat.reduceEqDiff, Nat.reduceLT, ↓reduceIte, Nat.reduceAdd, Nat.reduceMul, Nat.reduceLeDiff, Nat.reduceSub, Nat.reduceBEq, Int.reduceEq, Int.reduceLT, Int.reduceLE, Int.reduceToNat, Int.reduceAdd, Int.reduceSub, Int.reduceNeg, UInt8.reduceToNat]
      refine ⟨⟨by omega, by omega⟩, ?_⟩
      rw [nodes_nd hxl]
      simp only [go_sem, Nat.reduceEqDiff, Nat.reduceLT, ↓reduceIte, Nat.reduceAdd, Nat.reduceMul, Nat.reduceLeDiff, Nat.reduceSub, Nat.reduceBEq, Int.reduceEq, Int.reduceLT, Int.reduceLE, Int.reduceToNat, Int.reduceAdd, Int.reduceSub, Int.reduceNeg, UInt8.reduceToNat]
      obtain ⟨hk1, hkl2⟩ := hk x hxl
      have hmem : ∀ y : Int, y ∈ kidsL (nd ns x) → y ∈ l := fun y hy => hcl (x : Int) hxm y hy
      refine x_callC X 37 (ds := [nodeD (nd ns x), .clo 17 [.ptr M]]) [.ptr M] (f16_ok (nd ns x) (atI l) 17 [.ptr M] (hfl _ hin) (fun y hy => by rw [hM]; exact f17_ok l y clk bs hnd (hmem y hy)) (hwd x hxl)) (fun _ => rfl) rfl rfl (by simp) rfl (by simp) ?_
      simp only [go_sem, Nat.reduceEqDiff, Nat.reduceLT, ↓reduceIte, Nat.reduceAdd, Nat.reduceMul, Nat.reduceLeDiff, Nat.reduceSub, Nat.reduceBEq, Int.reduceEq, Int.reduceLT, Int.reduceLE, Int.reduceToNat, Int.reduceAdd, Int.reduceSub, Int.reduceNeg, UInt8.reduceToNat]
      have hnd2 : nodeD (movN (atI l) (nd ns x)) = .agg [i64 (movN (atI l) (nd ns x)).k, i64 (movN (atI l) (nd ns x)).a, i64 (movN (atI l) (nd ns x)).b, .sl (some 2) ((movN (atI l) (nd ns x)).l.map fldD)] := rfl
      have hnx : normP ns l (x : Int) = movN (atI l) (nd ns x) := rfl
      have htk3 : List.take k (List.map (fun s => nodeD (normP ns l s)) (List.take k l)) ++ [nodeD (movN (atI l) (nd ns x))] = List.map (fun s => nodeD (normP ns l s)) (List.take (k + 1) l) := by
        rw [List.take_of_length_le (by simp; omega), List.take_succ_eq_append_getElem h1', List.map_append]
        have : l[k] = (x : Int) := by rw [← hx]; simp [h1']
        simp [this, hnx]
      rw [hnd2]
      simp only [go_sem, Nat.reduceEqDiff, Nat.reduceLT, ↓reduceIte, Nat.reduceAdd, Nat.reduceMul, Nat.reduceLeDiff, Nat.reduceSub, Nat.reduceBEq, Int.reduceEq, Int.reduceLT, Int.reduceLE, Int.reduceToNat, Int.reduceAdd, Int.reduceSub, Int.reduceNeg, UInt8.reduceToNat]
      rw [← hnd2, htk3]
      refine ⟨by omega, by decide +kernel, ?_⟩
      rw [w64_in ⟨by omega, by omega⟩, hQ]
      simp only [go_sem, Nat.reduceEqDiff, Nat.reduceLT, ↓reduceIte, Nat.reduceAdd, Nat.reduceMul, Nat.reduceLeDiff, Nat.reduceSub, Nat.reduceBEq, Int.reduceEq, Int.reduceLT, Int.reduceLE, Int.reduceToNat, Int.reduceAdd, Int.reduceSub, Int.reduceNeg, UInt8.reduceToNat]
      refine ⟨⟨k + 1, by omega⟩, by show l.length - (k + 1) < _; omega, tau [([97], [40])], ?_⟩
      simp only [go_sem, Nat.reduceEqDiff, Nat.reduceLT, ↓reduceIte, Nat.reduceAdd, Nat.reduceMul, Nat.reduceLeDiff, Nat.reduceSub, Nat.reduceBEq, Int.reduceEq, Int.reduceLT, Int.reduceLE, Int.reduceToNat, Int.reduceAdd, Int.reduceSub, Int.reduceNeg, UInt8.reduceToNat]
      all_goals first | rfl | exact ⟨rfl, rfl⟩ | skip
    · have h3 : k = l.length := by omega
      subst h3
      rw [hQ]
      simp only [go_sem, Nat.reduceEqDiff, Nat.reduceLT, ↓reduceIte, Nat.reduceAdd, Nat.reduceMul, Nat.reduceLeDiff, Nat.reduceSub, Nat.reduceBEq, Int.reduceEq, Int.reduceLT, Int.reduceLE, Int.reduceToNat, Int.reduceAdd, Int.reduceSub, Int.reduceNeg, UInt8.reduceToNat]
      refine X_retZ (.inl rfl) hB0 ?_
      simp only [go_sem, Nat.reduceEqDiff, Nat.reduceLT, ↓reduceIte, Nat.reduceAdd, Nat.reduceMul, Nat.reduceLeDiff, Nat.reduceSub, Nat.reduceBEq, Int.reduceEq, Int.reduceLT, Int.reduceLE, Int.reduceToNat, Int.reduceAdd, Int.reduceSub, Int.reduceNeg, UInt8.reduceToNat]
      refine ⟨[([97], some 4, l.map fun s => nodeD (normP ns l s))], ?_⟩
      simp only [go_sem, Nat.reduceEqDiff, Nat.reduceLT, ↓reduceIte, Nat.reduceAdd, Nat.reduceMul, Nat.reduceLeDiff, Nat.reduceSub, Nat.reduceBEq, Int.reduceEq, Int.reduceLT, Int.reduceLE, Int.reduceToNat, Int.reduceAdd, Int.reduceSub, Int.reduceNeg, UInt8.reduceToNat]
      simp
theorem rights_wd {ns : List TN} (h : rightsB ns = true) : ∀ x, x < ns.length → ∀ i, i < (nd ns x).l.length → ((nd ns x).l.getD i ([], 0)).2 ∈ kidsL (nd ns x) := by
  intro x hx i hi
  have h1 := rights_nd h hx
  by_cases hw : wideZ (nd ns x).k = true
  · have hp : pairZ (nd ns x).k = false := by
      simp only [wideZ, Bool.or_eq_true, decide_eq_true_eq] at hw
      simp only [pairZ, Bool.or_eq_false_iff, decide_eq_false_iff_not]
      omega
    have : kidsL (nd ns x) = (nd ns x).l.map (·.2) := by simp [kidsL, hp, hw]
    rw [this]
    refine List.mem_map.2 ⟨(nd ns x).l[i], List.getElem_mem hi, ?_⟩
    simp [hi]
  · have : (nd ns x).l = [] := by
      have hw : wideZ (nd ns x).k = false := by simpa using hw
      unfold rightB at h1
      simp only [hw, Bool.not_false, Bool.true_and, Bool.and_eq_true, Bool.not_eq_true', Bool.and_eq_false_iff, decide_eq_false_iff_not, Bool.or_eq_false_iff] at h1
      have h2 : ¬ 0 < (nd ns x).l.length := by
        simp_all
      exact List.eq_nil_of_length_eq_zero (by omega)
    rw [this] at hi
    simp at hi
theorem may_ok {ns : List TN} {root : Int} (h : mayZ ns root = 0) : (0 < ns.length ∧ ns.length ≤ 2000) ∧ (0 ≤ root ∧ root < ns.length) ∧ rightsB ns = true ∧ endsB ns = true := by
  unfold mayZ at h
  split at h
  · cases h
  · rename_i h1
    split at h
    · cases h
    · rename_i h2
      split at h
      · cases h
      · rename_i h3
        simp only [Bool.or_eq_true, decide_eq_true_eq, not_or, Bool.not_eq_true', Bool.not_eq_false] at h1 h2 h3
        exact ⟨⟨by omega, by omega⟩, ⟨by omega, by omega⟩, h3.1, h3.2⟩
theorem f6_norm {G} (ns : List TN) (root : Int) (hs : Sane ns) (l : List Int) (hm : mayZ ns root = 0) (hl : Belw ns root l) : HP Tryd.prog G 6 [typeS ns root] (fun r => r = .tup [.d (typeS (l.map (normP ns l)) 0), .d (i64 0)]) := by
  obtain ⟨⟨h2, h3⟩, h4, h5, h6⟩ := may_ok hm
  unfold typeS
  refine funZ_ok Tryd.func6 rfl (by decide +kernel) (by simp [Tryd.ntmps6]) (veil fun E => ?_)
  simp only [go_sem, Nat.reduceEqDiff, Nat.reduceLT, ↓reduceIte, Nat.reduceAdd, Nat.reduceMul, Nat.reduceLeDiff, Nat.reduceSub, Nat.reduceBEq, Int.reduceEq, Int.reduceLT, Int.reduceLE, Int.reduceToNat, Int.reduceAdd, Int.reduceSub, Int.reduceNeg, UInt8.reduceToNat]
  refine e_call E (f8_ok ns root hs) rfl rfl (by simp) ?_
  rintro _ rfl
  rw [hm]
  simp only [go_sem, Nat.reduceEqDiff, Nat.reduceLT, ↓reduceIte, Nat.reduceAdd, Nat.reduceMul, Nat.reduceLeDiff, Nat.reduceSub, Nat.reduceBEq, Int.reduceEq, Int.reduceLT, Int.reduceLE, Int.reduceToNat, Int.reduceAdd, Int.reduceSub, Int.reduceNeg, UInt8.reduceToNat]
  refine e_call E (f9_ok ns root root l (by omega) (fun n hn => (hs.2 n hn).1) (rights_kids h5) h4 hl (rights_wd h5)) rfl rfl (by simp) ?_
  rintro _ rfl
  unfold typeS
  simp only [go_sem, Nat.reduceEqDiff, Nat.reduceLT, ↓reduceIte, Nat.reduceAdd, Nat.reduceMul, Nat.reduceLeDiff, Nat.reduceSub, Nat.reduceBEq, Int.reduceEq, Int.reduceLT, Int.reduceLE, Int.reduceToNat, Int.reduceAdd, Int.reduceSub, Int.reduceNeg, UInt8.reduceToNat]
  exact ⟨[], by simp only [go_sem, Nat.reduceEqDiff, Nat.reduceLT, ↓reduceIte, Nat.reduceAdd, Nat.reduceMul, Nat.reduceLeDiff, Nat.reduceSub, Nat.reduceBEq, Int.reduceEq, Int.reduceLT, Int.reduceLE, Int.reduceToNat, Int.reduceAdd, Int.reduceSub, Int.reduceNeg, UInt8.reduceToNat]⟩
theorem f6_bad {G} (ns : List TN) (root : Int) (hs : Sane ns) (hm : mayZ ns root ≠ 0) : HP Tryd.prog G 6 [typeS ns root] (fun r => r = .tup [.d (.agg [.nils, i64 0]), .d (i64 (mayZ ns root))]) := by
  unfold typeS
  refine funZ_ok Tryd.func6 rfl (by decide +kernel) (by simp [Tryd.ntmps6]) (veil fun E => ?_)
  simp only [go_sem, Nat.reduceEqDiff, Nat.reduceLT, ↓reduceIte, Nat.reduceAdd, Nat.reduceMul, Nat.reduceLeDiff, Nat.reduceSub, Nat.reduceBEq, Int.reduceEq, Int.reduceLT, Int.reduceLE, Int.reduceToNat, Int.reduceAdd, Int.reduceSub, Int.reduceNeg, UInt8.reduceToNat]
  refine e_call E (f8_ok ns root hs) rfl rfl (by simp) ?_
  rintro _ rfl
  simp only [go_sem, Nat.reduceEqDiff, Nat.reduceLT, ↓reduceIte, Nat.reduceAdd, Nat.reduceMul, Nat.reduceLeDiff, Nat.reduceSub, Nat.reduceBEq, Int.reduceEq, Int.reduceLT, Int.reduceLE, Int.reduceToNat, Int.reduceAdd, Int.reduceSub, Int.reduceNeg, UInt8.reduceToNat]
  refine e_ifd E (fun h1 => ?_) (fun h1 => ?_) <;> simp only [go_sem, Nat.reduceEqDiff, Nat.reduceLT, ↓reduceIte, Nat.reduceAdd, Nat.reduceMul, Nat.reduceLeDiff, Nat.reduceSub, Nat.reduceBEq, Int.reduceEq, Int.reduceLT, Int.reduceLE, Int.reduceToNat, Int.reduceAdd, Int.reduceSub, Int.reduceNeg, UInt8.reduceToNat]
  · exact ⟨[], by simp only [go_sem, Nat.reduceEqDiff, Nat.reduceLT, ↓reduceIte, Nat.reduceAdd, Nat.reduceMul, Nat.reduceLeDiff, Nat.reduceSub, Nat.reduceBEq, Int.reduceEq, Int.reduceLT, Int.reduceLE, Int.reduceToNat, Int.reduceAdd, Int.reduceSub, Int.reduceNeg, UInt8.reduceToNat]⟩
  · exact absurd hm h1
end Go.Proofs.YtjoneaifakonjaaDoor
