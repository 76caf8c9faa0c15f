/-
  What is below a node, in order: the program's iterator.
-/
import Derived.Test.YtjoneaifakonjaaDoorZ1
set_option linter.all false
namespace Go.Proofs.YtjoneaifakonjaaDoor
open Go.Ab
def seenL (N : Nat) (out : List Int) : List D := (List.range N).map fun (j : Nat) => D.bool (decide ((j : Int) ∈ out))
theorem seen_len (N : Nat) (out : List Int) : (seenL N out).length = N := by simp [seenL]
theorem seen_zero (N : Nat) : List.replicate N (D.bool false) = seenL N [] := by
  refine List.ext_getElem (by simp [seenL]) fun q h1 h2 => ?_
  simp [seenL]
theorem seen_get {N : Nat} {out : List Int} {x : Nat} (hx : x < N) : (seenL N out).getD x .nilp = .bool (decide ((x : Int) ∈ out)) := by simp [seenL, hx]
theorem seen_set {N : Nat} {out : List Int} {x : Nat} (_hx : x < N) : (seenL N out).set x (.bool true) = seenL N (out ++ [(x : Int)]) := by
  refine List.ext_getElem (by simp [seenL]) fun q h1 h2 => ?_
  have hq : q < N := by simpa [seenL] using h2
  simp only [List.getElem_set]
  by_cases e : x = q
  · subst e; simp [seenL]
  · rw [if_neg e]
    have : ¬ ((q : Int) = (x : Int)) := by omega
    simp [seenL, this]
def cap31 (ns : List TN) (r0 root : Int) : List D := [.ptr (.agg [.sl (some 4) (ns.map nodeD), i64 r0]), .ptr (i64 root)]
set_option maxHeartbeats 1000000 in
theorem f31_it {G} (ns : List TN) (r0 root : Int) (l : List Int) (hN : ns.length ≤ 4000) (hfl : ∀ n ∈ ns, n.l.length ≤ 1000000) (hk : KidIn ns) (hr : okI ns root) (hl : Belw ns root l) :
    ItC Tryd.prog G 31 (cap31 ns r0 root) l.length (fun n => [i64 (l.getD n 0)]) := by
  refine funI_ok Tryd.func31 rfl (by decide +kernel) (by simp [Tryd.ntmps31, cap31]) rfl fun z hz => ?_
  unfold cap31
  refine Y_seq (Y_codeE fun E => ?_)
  simp only [go_sem, Nat.reduceEqDiff, Nat.reduceLT, ↓reduceIte, Nat.reduceAdd, Nat.reduceMul, Nat.reduceLeDiff, Nat.reduceSub, Nat.reduceBEq, Int.reduceEq, Int.reduceLT, Int.reduceLE, Int.reduceToNat, Int.reduceAdd, Int.reduceSub, Int.reduceNeg, UInt8.reduceToNat]
  refine ⟨⟨by omega, by omega, by omega, by omega⟩, ?_⟩
  rw [show List.replicate ns.length (D.bool false) = seenL ns.length [] from seen_zero _]
  refine Y_seq (Y_codeE fun E => ?_)
  simp only [go_sem, Nat.reduceEqDiff, Nat.reduceLT, ↓reduceIte, Nat.reduceAdd, Nat.reduceMul, Nat.reduceLeDiff, Nat.reduceSub, Nat.reduceBEq, Int.reduceEq, Int.reduceLT, Int.reduceLE, Int.reduceToNat, Int.reduceAdd, Int.reduceSub, Int.reduceNeg, UInt8.reduceToNat]
  refine Y_block (Y_loop (X := { x : List Int × List Int × List Int // Bl ns root x.1 x.2.1 ∧ Dfs (kidsI ns) x.1 x.2.1 l }) (fun x => mk [(0, .d (.yl z.l)), (1, .d (.ptr (.agg [.sl (some 4) (ns.map nodeD), i64 r0]))), (4, .vw [98] 0 ns.length), (5, .vw [99] 0 x.1.2.1.length)]
    [([98], .arr none (seenL ns.length x.1.1)), ([99], .arr none ((x.1.2.1 ++ x.1.2.2).map i64))] [98, 99]) (fun x => II z x.1.1.length) (fun x => x.1.2.1.length + 40 * unseen (univI ns.length) x.1.1) ⟨([], [root], []), .init hr, hl.1⟩ ⟨tau [([98], [11]), ([99], [13])], LeL.le ?_⟩ (fun _ _ h => h) ?_)
  · simp only [go_sem, Nat.reduceEqDiff, Nat.reduceLT, ↓reduceIte, Nat.reduceAdd, Nat.reduceMul, Nat.reduceLeDiff, Nat.reduceSub, Nat.reduceBEq, Int.reduceEq, Int.reduceLT, Int.reduceLE, Int.reduceToNat, Int.reduceAdd, Int.reduceSub, Int.reduceNeg, UInt8.reduceToNat]
    all_goals rfl
  rintro ⟨⟨out, td, rest⟩, hsp, hdf⟩
  simp only at hsp hdf ⊢
  generalize hΦ : lpY _ _ _ _ _ _ _ _ = Φ'
  refine Y_seq (Y_codeE fun E => ?_)
  simp only [go_sem, Nat.reduceEqDiff, Nat.reduceLT, ↓reduceIte, Nat.reduceAdd, Nat.reduceMul, Nat.reduceLeDiff, Nat.reduceSub, Nat.reduceBEq, Int.reduceEq, Int.reduceLT, Int.reduceLE, Int.reduceToNat, Int.reduceAdd, Int.reduceSub, Int.reduceNeg, UInt8.reduceToNat]
  refine e_ifd E (fun h1 => ?_) (fun h1 => ?_) <;> simp only [go_sem, Nat.reduceEqDiff, Nat.reduceLT, ↓reduceIte, Nat.reduceAdd, Nat.reduceMul, Nat.reduceLeDiff, Nat.reduceSub, Nat.reduceBEq, Int.reduceEq, Int.reduceLT, Int.reduceLE, Int.reduceToNat, Int.reduceAdd, Int.reduceSub, Int.reduceNeg, UInt8.reduceToNat]
  · obtain ⟨td, x, rfl⟩ := snoc_ex (l := td) (by omega)
    have hok : okI ns x := hsp.htd _ (by simp)
    obtain ⟨x, rfl⟩ : ∃ y : Nat, x = (y : Int) := ⟨x.toNat, by have := hok.1; omega⟩
    have hxl : x < ns.length := by have := hok.2; omega
    have hin : nd ns x ∈ ns := by rw [nd_eq hxl]; exact List.getElem_mem hxl
    obtain ⟨hk1, hkl⟩ := hk x hxl
    have hfew := hsp.hfew
    have hle := hsp.hlen
    have hlt : (td ++ [(x : Int)]).length = td.length + 1 := by simp
    have hw : w64 (((td ++ [(x : Int)]).length : Int) - 1) = (td.length : Int) := by rw [w64_in ⟨by omega, by omega⟩]; omega
    refine Y_block (Y_seq (Y_codeE fun E => ?_))
    simp only [go_sem, Nat.reduceEqDiff, Nat.reduceLT, ↓reduceIte, Nat.reduceAdd, Nat.reduceMul, Nat.reduceLeDiff, Nat.reduceSub, Nat.reduceBEq, Int.reduceEq, Int.reduceLT, Int.reduceLE, Int.reduceToNat, Int.reduceAdd, Int.reduceSub, Int.reduceNeg, UInt8.reduceToNat]
    rw [hw]
    refine ⟨⟨by omega, by omega⟩, ?_⟩
    have hx : (List.map i64 (td ++ [(x : Int)] ++ rest)).getD (td.length : Int).toNat .nilp = i64 x := by simp
    rw [hx]
    simp only [go_sem, Nat.reduceEqDiff, Nat.reduceLT, ↓reduceIte, Nat.reduceAdd, Nat.reduceMul, Nat.reduceLeDiff, Nat.reduceSub, Nat.reduceBEq, Int.reduceEq, Int.reduceLT, Int.reduceLE, Int.reduceToNat, Int.reduceAdd, Int.reduceSub, Int.reduceNeg, UInt8.reduceToNat]
    refine Y_seq (Y_codeE fun E => ?_)
    simp only [go_sem, Nat.reduceEqDiff, Nat.reduceLT, ↓reduceIte, Nat.reduceAdd, Nat.reduceMul, Nat.reduceLeDiff, Nat.reduceSub, Nat.reduceBEq, Int.reduceEq, Int.reduceLT, Int.reduceLE, Int.reduceToNat, Int.reduceAdd, Int.reduceSub, Int.reduceNeg, UInt8.reduceToNat]
    rw [hw]
    refine ⟨⟨by omega, by omega⟩, ?_⟩
    refine Y_seq (Y_codeE fun E => ?_)
    simp only [go_sem, Nat.reduceEqDiff, Nat.reduceLT, ↓reduceIte, Nat.reduceAdd, Nat.reduceMul, Nat.reduceLeDiff, Nat.reduceSub, Nat.reduceBEq, Int.reduceEq, Int.reduceLT, Int.reduceLE, Int.reduceToNat, Int.reduceAdd, Int.reduceSub, Int.reduceNeg, UInt8.reduceToNat]
    refine ⟨⟨by omega, by omega⟩, ?_⟩
    rw [seen_get hxl]
    simp only [go_sem, Nat.reduceEqDiff, Nat.reduceLT, ↓reduceIte, Nat.reduceAdd, Nat.reduceMul, Nat.reduceLeDiff, Nat.reduceSub, Nat.reduceBEq, Int.reduceEq, Int.reduceLT, Int.reduceLE, Int.reduceToNat, Int.reduceAdd, Int.reduceSub, Int.reduceNeg, UInt8.reduceToNat]
    refine e_ifd E (fun hm => ?_) (fun hm => ?_) <;> simp only [go_sem, Nat.reduceEqDiff, Nat.reduceLT, ↓reduceIte, Nat.reduceAdd, Nat.reduceMul, Nat.reduceLeDiff, Nat.reduceSub, Nat.reduceBEq, Int.reduceEq, Int.reduceLT, Int.reduceLE, Int.reduceToNat, Int.reduceAdd, Int.reduceSub, Int.reduceNeg, UInt8.reduceToNat]
    · subst hΦ
      refine Y_loop_next (show { x : List Int × List Int × List Int // Bl ns root x.1 x.2.1 ∧ Dfs (kidsI ns) x.1 x.2.1 l } from ⟨(out, td, (x : Int) :: rest), hsp.skip hm, hdf.skip_inv hm⟩) ?_ id (LeL.le ?_) (fun _ _ h => h)
      · show td.length + 40 * unseen (univI ns.length) out < (td ++ [(x : Int)]).length + 40 * unseen (univI ns.length) out
        omega
      · simp only [go_sem, Nat.reduceEqDiff, Nat.reduceLT, ↓reduceIte, Nat.reduceAdd, Nat.reduceMul, Nat.reduceLeDiff, Nat.reduceSub, Nat.reduceBEq, Int.reduceEq, Int.reduceLT, Int.reduceLE, Int.reduceToNat, Int.reduceAdd, Int.reduceSub, Int.reduceNeg, UInt8.reduceToNat]
        simp
    · have hdf2 := hdf.take_inv hm
      have hsp2 := hsp.take hk hm
      have hlt2 := hsp.lt hm
      obtain ⟨z2, hz2⟩ := hdf2.pre
      have hol : out.length < l.length := by rw [hz2]; simp
      have hgl : l.getD out.length 0 = (x : Int) := by rw [hz2]; simp
      refine Y_seq (Y_codeE fun E => ?_)
      simp only [go_sem, Nat.reduceEqDiff, Nat.reduceLT, ↓reduceIte, Nat.reduceAdd, Nat.reduceMul, Nat.reduceLeDiff, Nat.reduceSub, Nat.reduceBEq, Int.reduceEq, Int.reduceLT, Int.reduceLE, Int.reduceToNat, Int.reduceAdd, Int.reduceSub, Int.reduceNeg, UInt8.reduceToNat]
      refine ⟨⟨by omega, by omega⟩, ?_⟩
      rw [seen_set hxl]
      refine Y_seq (Y_seq (Y_region (Y_op rfl ?_)))
      simp only [go_sem, Nat.reduceEqDiff, Nat.reduceLT, ↓reduceIte, Nat.reduceAdd, Nat.reduceMul, Nat.reduceLeDiff, Nat.reduceSub, Nat.reduceBEq, Int.reduceEq, Int.reduceLT, Int.reduceLE, Int.reduceToNat, Int.reduceAdd, Int.reduceSub, Int.reduceNeg, UInt8.reduceToNat]
      refine Y_op rfl ?_
      simp only [go_sem, Nat.reduceEqDiff, Nat.reduceLT, ↓reduceIte, Nat.reduceAdd, Nat.reduceMul, Nat.reduceLeDiff, Nat.reduceSub, Nat.reduceBEq, Int.reduceEq, Int.reduceLT, Int.reduceLE, Int.reduceToNat, Int.reduceAdd, Int.reduceSub, Int.reduceNeg, UInt8.reduceToNat]
      refine Y_yield hz hol (by simp) rfl (by simp only [go_sem, Nat.reduceEqDiff, Nat.reduceLT, ↓reduceIte, Nat.reduceAdd, Nat.reduceMul, Nat.reduceLeDiff, Nat.reduceSub, Nat.reduceBEq, Int.reduceEq, Int.reduceLT, Int.reduceLE, Int.reduceToNat, Int.reduceAdd, Int.reduceSub, Int.reduceNeg, UInt8.reduceToNat]; rw [hgl]) ?_ ?_
      · refine Y_op rfl ?_
        simp only [go_sem, Nat.reduceEqDiff, Nat.reduceLT, ↓reduceIte, Nat.reduceAdd, Nat.reduceMul, Nat.reduceLeDiff, Nat.reduceSub, Nat.reduceBEq, Int.reduceEq, Int.reduceLT, Int.reduceLE, Int.reduceToNat, Int.reduceAdd, Int.reduceSub, Int.reduceNeg, UInt8.reduceToNat]
        refine Y_ops_nil (Y_codeE fun E => ?_)
        simp only [go_sem, Nat.reduceEqDiff, Nat.reduceLT, ↓reduceIte, Nat.reduceAdd, Nat.reduceMul, Nat.reduceLeDiff, Nat.reduceSub, Nat.reduceBEq, Int.reduceEq, Int.reduceLT, Int.reduceLE, Int.reduceToNat, Int.reduceAdd, Int.reduceSub, Int.reduceNeg, UInt8.reduceToNat]
        refine Y_codeE fun E => ?_
        simp only [go_sem, Nat.reduceEqDiff, Nat.reduceLT, ↓reduceIte, Nat.reduceAdd, Nat.reduceMul, Nat.reduceLeDiff, Nat.reduceSub, Nat.reduceBEq, Int.reduceEq, Int.reduceLT, Int.reduceLE, Int.reduceToNat, Int.reduceAdd, Int.reduceSub, Int.reduceNeg, UInt8.reduceToNat]
        refine ⟨⟨by omega, by omega⟩, ?_⟩
        rw [nodes_nd hxl]
        simp only [go_sem, Nat.reduceEqDiff, Nat.reduceLT, ↓reduceIte, Nat.reduceAdd, Nat.reduceMul, Nat.reduceLeDiff, Nat.reduceSub, Nat.reduceBEq, Int.reduceEq, Int.reduceLT, Int.reduceLE, Int.reduceToNat, Int.reduceAdd, Int.reduceSub, Int.reduceNeg, UInt8.reduceToNat]
        refine e_call E (f27_ok (nd ns x) (hfl _ hin)) rfl rfl (by simp) ?_
        rintro _ rfl
        obtain ⟨K, hK⟩ : ∃ K, K = kidsL (nd ns x) := ⟨_, rfl⟩
        rw [← hK] at hkl hk1 ⊢
        simp only [go_sem, Nat.reduceEqDiff, Nat.reduceLT, ↓reduceIte, Nat.reduceAdd, Nat.reduceMul, Nat.reduceLeDiff, Nat.reduceSub, Nat.reduceBEq, Int.reduceEq, Int.reduceLT, Int.reduceLE, Int.reduceToNat, Int.reduceAdd, Int.reduceSub, Int.reduceNeg, UInt8.reduceToNat]
        refine e_callO E [.d (intsD K)] [] [] (f32_new K (by omega)) rfl rfl ⟨by simp only [go_sem, Nat.reduceEqDiff, Nat.reduceLT, ↓reduceIte, Nat.reduceAdd, Nat.reduceMul, Nat.reduceLeDiff, Nat.reduceSub, Nat.reduceBEq, Int.reduceEq, Int.reduceLT, Int.reduceLE, Int.reduceToNat, Int.reduceAdd, Int.reduceSub, Int.reduceNeg, UInt8.reduceToNat], by rw [mk_used]; decide⟩ rfl (by simp only [go_sem, Nat.reduceEqDiff, Nat.reduceLT, ↓reduceIte, Nat.reduceAdd, Nat.reduceMul, Nat.reduceLeDiff, Nat.reduceSub, Nat.reduceBEq, Int.reduceEq, Int.reduceLT, Int.reduceLE, Int.reduceToNat, Int.reduceAdd, Int.reduceSub, Int.reduceNeg, UInt8.reduceToNat]) (by simp only [go_sem, Nat.reduceEqDiff, Nat.reduceLT, ↓reduceIte, Nat.reduceAdd, Nat.reduceMul, Nat.reduceLeDiff, Nat.reduceSub, Nat.reduceBEq, Int.reduceEq, Int.reduceLT, Int.reduceLE, Int.reduceToNat, Int.reduceAdd, Int.reduceSub, Int.reduceNeg, UInt8.reduceToNat]) ?_
        rintro _ _ ⟨rfl, rfl⟩
        simp only [go_sem, Nat.reduceEqDiff, Nat.reduceLT, ↓reduceIte, Nat.reduceAdd, Nat.reduceMul, Nat.reduceLeDiff, Nat.reduceSub, Nat.reduceBEq, Int.reduceEq, Int.reduceLT, Int.reduceLE, Int.reduceToNat, Int.reduceAdd, Int.reduceSub, Int.reduceNeg, UInt8.reduceToNat]
        refine e_callO E [.vw [45, 0] 0 K.length] [([45, 0], .arr none (K.map i64))] [45] (f33_ok K (by omega)) rfl rfl ⟨by simp only [go_sem, Nat.reduceEqDiff, Nat.reduceLT, ↓reduceIte, Nat.reduceAdd, Nat.reduceMul, Nat.reduceLeDiff, Nat.reduceSub, Nat.reduceBEq, Int.reduceEq, Int.reduceLT, Int.reduceLE, Int.reduceToNat, Int.reduceAdd, Int.reduceSub, Int.reduceNeg, UInt8.reduceToNat], by rw [mk_used]; decide⟩ rfl (by simp only [go_sem, Nat.reduceEqDiff, Nat.reduceLT, ↓reduceIte, Nat.reduceAdd, Nat.reduceMul, Nat.reduceLeDiff, Nat.reduceSub, Nat.reduceBEq, Int.reduceEq, Int.reduceLT, Int.reduceLE, Int.reduceToNat, Int.reduceAdd, Int.reduceSub, Int.reduceNeg, UInt8.reduceToNat]) (by simp only [go_sem, Nat.reduceEqDiff, Nat.reduceLT, ↓reduceIte, Nat.reduceAdd, Nat.reduceMul, Nat.reduceLeDiff, Nat.reduceSub, Nat.reduceBEq, Int.reduceEq, Int.reduceLT, Int.reduceLE, Int.reduceToNat, Int.reduceAdd, Int.reduceSub, Int.reduceNeg, UInt8.reduceToNat]) ?_
        rintro _ _ ⟨rfl, rfl⟩
        simp only [go_sem, Nat.reduceEqDiff, Nat.reduceLT, ↓reduceIte, Nat.reduceAdd, Nat.reduceMul, Nat.reduceLeDiff, Nat.reduceSub, Nat.reduceBEq, Int.reduceEq, Int.reduceLT, Int.reduceLE, Int.reduceToNat, Int.reduceAdd, Int.reduceSub, Int.reduceNeg, UInt8.reduceToNat]
        have hrl : List.take K.length (List.map i64 K.reverse) = List.map i64 K.reverse := List.take_of_length_le (by simp)
        have htl : List.take (td.length - 0) (List.map i64 (td ++ [(x : Int)] ++ rest)) = List.map i64 td := by
          rw [Nat.sub_zero, List.append_assoc, List.map_append, List.take_append_of_le_length (by simp), List.take_of_length_le (by simp)]
        rw [hrl, htl]
        simp only [go_sem, Nat.reduceEqDiff, Nat.reduceLT, ↓reduceIte, Nat.reduceAdd, Nat.reduceMul, Nat.reduceLeDiff, Nat.reduceSub, Nat.reduceBEq, Int.reduceEq, Int.reduceLT, Int.reduceLE, Int.reduceToNat, Int.reduceAdd, Int.reduceSub, Int.reduceNeg, UInt8.reduceToNat]
        refine ⟨by simp, by simp only [List.length_reverse]; omega, Y_blk ?_⟩
        subst hΦ
        refine Y_loop_next (show { x : List Int × List Int × List Int // Bl ns root x.1 x.2.1 ∧ Dfs (kidsI ns) x.1 x.2.1 l } from ⟨(out ++ [(x : Int)], td ++ (kidsI ns (x : Int)).reverse, []), hsp2, hdf2⟩) ?_ (tau [([99], [50])]) (LeL.le ?_) (fun _ _ h => by rw [show (out ++ [(x : Int)]).length = out.length + 1 by simp]; exact h)
        · have hke : (kidsI ns (x : Int)) = K := by rw [hK]; rfl
          show (td ++ (kidsI ns (x : Int)).reverse).length + 40 * unseen (univI ns.length) (out ++ [(x : Int)]) < (td ++ [(x : Int)]).length + 40 * unseen (univI ns.length) out
          rw [hke, List.length_append, List.length_reverse]
          omega
        · have hke : (kidsI ns (x : Int)) = K := by rw [hK]; rfl
          simp only [go_sem, Nat.reduceEqDiff, Nat.reduceLT, ↓reduceIte, Nat.reduceAdd, Nat.reduceMul, Nat.reduceLeDiff, Nat.reduceSub, Nat.reduceBEq, Int.reduceEq, Int.reduceLT, Int.reduceLE, Int.reduceToNat, Int.reduceAdd, Int.reduceSub, Int.reduceNeg, UInt8.reduceToNat]
          rw [hke]
          simp
      · refine Y_op rfl ?_
        simp only [go_sem, Nat.reduceEqDiff, Nat.reduceLT, ↓reduceIte, Nat.reduceAdd, Nat.reduceMul, Nat.reduceLeDiff, Nat.reduceSub, Nat.reduceBEq, Int.reduceEq, Int.reduceLT, Int.reduceLE, Int.reduceToNat, Int.reduceAdd, Int.reduceSub, Int.reduceNeg, UInt8.reduceToNat]
        refine Y_ops_nil (Y_codeE fun E => ?_)
        simp only [go_sem, Nat.reduceEqDiff, Nat.reduceLT, ↓reduceIte, Nat.reduceAdd, Nat.reduceMul, Nat.reduceLeDiff, Nat.reduceSub, Nat.reduceBEq, Int.reduceEq, Int.reduceLT, Int.reduceLE, Int.reduceToNat, Int.reduceAdd, Int.reduceSub, Int.reduceNeg, UInt8.reduceToNat]
        subst hΦ
        exact X_loop_ret (X_endX hz (.inr rfl))
  · subst hΦ
    refine X_loop_exit ?_
    simp only [go_sem, Nat.reduceEqDiff, Nat.reduceLT, ↓reduceIte, Nat.reduceAdd, Nat.reduceMul, Nat.reduceLeDiff, Nat.reduceSub, Nat.reduceBEq, Int.reduceEq, Int.reduceLT, Int.reduceLE, Int.reduceToNat, Int.reduceAdd, Int.reduceSub, Int.reduceNeg, UInt8.reduceToNat]
    refine Y_nil ?_
    have : td = [] := List.eq_nil_of_length_eq_zero (by omega)
    subst this
    have := hdf.done_inv
    subst this
    exact X_endI hz (.inl rfl)
end Go.Proofs.YtjoneaifakonjaaDoor
