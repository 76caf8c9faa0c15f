/-
  A type that came in; the law PolarSplits's own part.
-/
import Derived.Test.YtmplpdjddjiioaaYA
set_option linter.all false
namespace Go.Proofs.Ytmplpdjddjiioaa
open Go.Ab
/-- The shape of a type. -/
def tsT : List TS := [.sl (some 4) [.int .i64, .int .i64, .int .i64, .sl (some 2) [.str, .int .i64]], .int .i64]
def In (L : D) (ns : List TN) : Prop := RawT L ns ∧ ns.length ≤ maxLen ∧ ∀ n ∈ ns, n.l.length ≤ maxLen ∧ ∀ f ∈ n.l, f.1.length ≤ maxLen
theorem flds_in : ∀ {xs : List D}, (∀ x ∈ xs, okW (some 2) x ∧ oks [.str, .int .i64] x.cells) → ∃ l : List Fld, xs = l.map fldD ∧ ∀ f ∈ l, f.1.length ≤ maxLen
  | [], _ => ⟨[], rfl, by simp⟩
  | x :: xs, h => by
    obtain ⟨l, hl, hf⟩ := flds_in fun y hy => h y (List.mem_cons_of_mem _ hy)
    obtain ⟨h1, h2⟩ := h x List.mem_cons_self
    cases x with
    | agg cs =>
      have h2 : oks [.str, .int .i64] cs := h2
      match cs, h2 with
      | [.str s, .int k n], h2 =>
        obtain ⟨g1, g2, _⟩ := h2
        obtain rfl : k = .i64 := g2.1
        exact ⟨(s, n) :: l, by rw [hl]; rfl, fun f hf' => by
          rcases List.mem_cons.1 hf' with rfl | hf'
          · exact g1
          · exact hf f hf'⟩
    | _ => simp [okW] at h1
theorem node_in {x : D} (h1 : okW (some 4) x) (h2 : oks [.int .i64, .int .i64, .int .i64, .sl (some 2) [.str, .int .i64]] x.cells) : ∃ n, RawN x n ∧ n.l.length ≤ maxLen ∧ ∀ f ∈ n.l, f.1.length ≤ maxLen := by
  cases x with
  | agg cs =>
    have h2 : oks [.int .i64, .int .i64, .int .i64, .sl (some 2) [.str, .int .i64]] cs := h2
    match cs, h2 with
    | [.int k1 a, .int k2 b, .int k3 c, F], h2 =>
      obtain ⟨g1, g2, g3, g4, _⟩ := h2
      obtain rfl : k1 = .i64 := g1.1
      obtain rfl : k2 = .i64 := g2.1
      obtain rfl : k3 = .i64 := g3.1
      cases F with
      | nils => exact ⟨⟨a, b, c, []⟩, ⟨.nils, rfl, .inl ⟨rfl, rfl⟩⟩, by simp, by simp⟩
      | sl w xs =>
        obtain ⟨rfl, g5, g6⟩ := g4
        obtain ⟨l, rfl, hl⟩ := flds_in g6
        exact ⟨⟨a, b, c, l⟩, ⟨_, rfl, .inr rfl⟩, by simpa using g5, hl⟩
      | _ => exact g4.elim
  | _ => simp [okW] at h1
theorem nodes_in : ∀ {xs : List D}, (∀ x ∈ xs, okW (some 4) x ∧ oks [.int .i64, .int .i64, .int .i64, .sl (some 2) [.str, .int .i64]] x.cells) → ∃ ns, RawL xs ns ∧ ∀ n ∈ ns, n.l.length ≤ maxLen ∧ ∀ f ∈ n.l, f.1.length ≤ maxLen
  | [], _ => ⟨[], trivial, by simp⟩
  | x :: xs, h => by
    obtain ⟨ns, h1, h2⟩ := nodes_in fun y hy => h y (List.mem_cons_of_mem _ hy)
    obtain ⟨g1, g2⟩ := h x List.mem_cons_self
    obtain ⟨n, k1, k2⟩ := node_in g1 g2
    exact ⟨n :: ns, ⟨k1, h1⟩, fun m hm => by
      rcases List.mem_cons.1 hm with rfl | hm
      · exact k2
      · exact h2 m hm⟩
theorem type_in {ds : List D} (h : oks tsT ds) : ∃ L root ns, ds = [L, i64 root] ∧ In L ns := by
  match ds, h with
  | [L, .int k n], h =>
    obtain ⟨h1, h2, _⟩ := h
    obtain rfl : k = .i64 := h2.1
    cases L with
    | nils => exact ⟨.nils, n, [], rfl, .inl ⟨rfl, rfl⟩, by simp, by simp⟩
    | sl w xs =>
      obtain ⟨rfl, g1, g2⟩ := h1
      obtain ⟨ns, k1, k2⟩ := nodes_in g2
      exact ⟨_, n, ns, rfl, .inr ⟨xs, rfl, k1⟩, by rw [← k1.len]; exact g1, k2⟩
    | _ => exact h1.elim
theorem maxLen_lt : maxLen ≤ 9223372036854775807 := by unfold maxLen; omega
theorem wk_typeD (ns : List TN) (root : Int) : Wk (typeD ns root) (typeS ns root) := by
  refine Wk.agg rfl (by simp [D.scal]) fun i a b ha hb => ?_
  match i, ha, hb with
  | 1, ha, hb => cases ha; cases hb; exact .refl _
  | 0, ha, hb =>
    cases ha; cases hb
    cases ns with
    | nil => exact .nils _
    | cons n r => exact .refl _
theorem few_len (ns : List TN) (most : Nat) (hm : most ≤ 1000) : (fewL ns most).length ≤ 2001 ∧ (fewL ns most).length ≤ ns.length := by
  simp only [fewL, List.length_map, List.length_take, fewN]
  split <;> omega
theorem few_sane {L : D} {ns : List TN} (h : In L ns) (most : Nat) (hm : most ≤ 1000) : Sane (fewL ns most) := by
  have hx := maxLen_lt
  refine ⟨by have := (few_len ns most hm).1; omega, fun n hn => ?_⟩
  obtain ⟨m, hm', rfl⟩ := List.mem_map.1 hn
  have hmem := List.mem_of_mem_take hm'
  obtain ⟨h1, h2⟩ := h.2.2 m hmem
  refine ⟨?_, fun f hf => ?_⟩
  · simp only [cut40, List.length_take]
    omega
  · have := h2 f (List.mem_of_mem_take hf)
    omega
theorem f6_ok {G} {L : D} {ns : List TN} (root : Int) (most : Nat) (h : In L ns) (hm : most ≤ 1000) : HP Try.prog G 6 [.agg [L, i64 root], i64 most] (fun r => r = .d (typeD (fewL ns most) root)) := by
  have hx := maxLen_lt
  rcases h.1 with ⟨rfl, rfl⟩ | ⟨xs, rfl, hr⟩
  · refine (f6_sl [] [] root most trivial (by simp) hm).wk ⟨Wk.agg rfl (by simp [D.scal]) fun i a b ha hb => ?_, .refl _, trivial⟩
    match i, ha, hb with
    | 0, ha, hb => cases ha; cases hb; exact .nils _
    | 1, ha, hb => cases ha; cases hb; exact .refl _
  · exact f6_sl xs ns root most hr (by have := h.2.1; omega) hm
theorem f6_again {G} (ns : List TN) (root : Int) (most : Nat) (hs : Sane ns) (hm : most ≤ 1000) : HP Try.prog G 6 [typeD ns root, i64 most] (fun r => r = .d (typeD (fewL ns most) root)) := by
  refine (f6_sl (ns.map nodeD) ns root most ?_ (by have := hs.1; omega) hm).wk ⟨wk_typeD ns root, .refl _, trivial⟩
  have : ∀ ns : List TN, RawL (ns.map nodeD) ns := fun ns => by
    induction ns with
    | nil => trivial
    | cons n r ih => exact ⟨⟨_, rfl, .inr rfl⟩, ih⟩
  exact this ns
theorem few_few (ns : List TN) : fewL (fewL ns 40) 40 = fewL ns 40 := by
  have hl : (fewL ns 40).length = fewN ns.length 40 := by
    simp only [fewL, List.length_map, List.length_take]
    have : fewN ns.length 40 ≤ ns.length := by unfold fewN; split <;> omega
    omega
  have hN : fewN (fewL ns 40).length 40 = (fewL ns 40).length := by
    rw [hl]
    unfold fewN
    split <;> split <;> omega
  have h2 : fewL (fewL ns 40) 40 = ((fewL ns 40).take (fewL ns 40).length).map cut40 := by
    show ((fewL ns 40).take (fewN (fewL ns 40).length 40)).map cut40 = _
    rw [hN]
  rw [h2, List.take_length, fewL, List.map_map]
  refine List.map_congr_left fun n _ => ?_
  simp [cut40, List.take_take]
theorem split_fld {ns : List TN} {root : Int} (hs : Sane ns) {l : List Spot} (h : Spots ns root l) {q : Spot} (hq : q ∈ l) : (splitN ns l q).l.length ≤ 1000000 := by
  obtain ⟨⟨h1, h2⟩, _⟩ := h.2.1 q hq
  have hx : q.1.toNat < ns.length := by omega
  have hin : nd ns q.1.toNat ∈ ns := by rw [nd_eq hx]; exact List.getElem_mem hx
  have := (hs.2 _ hin).1
  simpa [splitN, fsplit_len] using this
set_option maxHeartbeats 1000000 in
theorem polarSplits_hp {G} {ds : List D} (h : oks tsT ds) : HP Try.prog G 3 [.agg ds] (fun r => r = .d (.bool true)) := by
  obtain ⟨L, root, ns, rfl, hin⟩ := type_in h
  have hs := few_sane hin 40 (by decide)
  refine funP_ok Try.func3 rfl (by decide +kernel) (by simp [Try.ntmps3]) (veil fun E => ?_)
  simp only [go_sem, Nat.reduceEqDiff, Nat.reduceLT, ↓reduceIte, Nat.reduceAdd, Nat.reduceMul, Nat.reduceLeDiff, Nat.reduceSub, Nat.reduceBEq, Int.reduceEq, Int.reduceLT, Int.reduceLE, Int.reduceToNat, Int.reduceAdd, Int.reduceSub, Int.reduceNeg, UInt8.reduceToNat]
  refine e_call E (f6_ok root 40 hin (by decide)) rfl rfl (by simp) ?_
  rintro _ rfl
  simp only [go_sem, Nat.reduceEqDiff, Nat.reduceLT, ↓reduceIte, Nat.reduceAdd, Nat.reduceMul, Nat.reduceLeDiff, Nat.reduceSub, Nat.reduceBEq, Int.reduceEq, Int.reduceLT, Int.reduceLE, Int.reduceToNat, Int.reduceAdd, Int.reduceSub, Int.reduceNeg, UInt8.reduceToNat]
  have hff := few_few ns
  obtain ⟨T, hT⟩ : ∃ T, T = fewL ns 40 := ⟨_, rfl⟩
  rw [← hT] at hs hff ⊢
  clear hT hin h
  have hag := f6_again (G := G) T root 40 hs (by decide)
  rw [hff] at hag
  have hwt : WkL [typeD T root] [typeS T root] := ⟨wk_typeD T root, trivial⟩
  unfold typeD
  simp only [go_sem, Nat.reduceEqDiff, Nat.reduceLT, ↓reduceIte, Nat.reduceAdd, Nat.reduceMul, Nat.reduceLeDiff, Nat.reduceSub, Nat.reduceBEq, Int.reduceEq, Int.reduceLT, Int.reduceLE, Int.reduceToNat, Int.reduceAdd, Int.reduceSub, Int.reduceNeg, UInt8.reduceToNat]
  refine e_call E (hag) rfl rfl (by simp) ?_
  rintro _ rfl
  simp only [go_sem, Nat.reduceEqDiff, Nat.reduceLT, ↓reduceIte, Nat.reduceAdd, Nat.reduceMul, Nat.reduceLeDiff, Nat.reduceSub, Nat.reduceBEq, Int.reduceEq, Int.reduceLT, Int.reduceLE, Int.reduceToNat, Int.reduceAdd, Int.reduceSub, Int.reduceNeg, UInt8.reduceToNat]
  refine e_call E ((f7_ok T root hs).wk hwt) rfl rfl (by simp) ?_
  rintro r hr
  rcases hr with ⟨hm, rfl⟩ | ⟨hm, l, rfl, hl⟩
  · simp only [go_sem, Nat.reduceEqDiff, Nat.reduceLT, ↓reduceIte, Nat.reduceAdd, Nat.reduceMul, Nat.reduceLeDiff, Nat.reduceSub, Nat.reduceBEq, Int.reduceEq, Int.reduceLT, Int.reduceLE, Int.reduceToNat, Int.reduceAdd, Int.reduceSub, Int.reduceNeg, UInt8.reduceToNat]
    refine e_call E ((f8_ok T root hs).wk hwt) rfl rfl (by simp) ?_
    rintro _ rfl
    simp only [go_sem, Nat.reduceEqDiff, Nat.reduceLT, ↓reduceIte, Nat.reduceAdd, Nat.reduceMul, Nat.reduceLeDiff, Nat.reduceSub, Nat.reduceBEq, Int.reduceEq, Int.reduceLT, Int.reduceLE, Int.reduceToNat, Int.reduceAdd, Int.reduceSub, Int.reduceNeg, UInt8.reduceToNat]
    rw [decide_eq_true hm]
    simp only [go_sem, Nat.reduceEqDiff, Nat.reduceLT, ↓reduceIte, Nat.reduceAdd, Nat.reduceMul, Nat.reduceLeDiff, Nat.reduceSub, Nat.reduceBEq, Int.reduceEq, Int.reduceLT, Int.reduceLE, Int.reduceToNat, Int.reduceAdd, Int.reduceSub, Int.reduceNeg, UInt8.reduceToNat]
    rw [show w64 0 = 0 from rfl]
    simp only [go_sem, Nat.reduceEqDiff, Nat.reduceLT, ↓reduceIte, Nat.reduceAdd, Nat.reduceMul, Nat.reduceLeDiff, Nat.reduceSub, Nat.reduceBEq, Int.reduceEq, Int.reduceLT, Int.reduceLE, Int.reduceToNat, Int.reduceAdd, Int.reduceSub, Int.reduceNeg, UInt8.reduceToNat]
    refine e_call E (f9_ok) rfl rfl (by simp) ?_
    rintro _ rfl
    simp only [go_sem, Nat.reduceEqDiff, Nat.reduceLT, ↓reduceIte, Nat.reduceAdd, Nat.reduceMul, Nat.reduceLeDiff, Nat.reduceSub, Nat.reduceBEq, Int.reduceEq, Int.reduceLT, Int.reduceLE, Int.reduceToNat, Int.reduceAdd, Int.reduceSub, Int.reduceNeg, UInt8.reduceToNat]
  · unfold typeS intsD
    simp only [go_sem, Nat.reduceEqDiff, Nat.reduceLT, ↓reduceIte, Nat.reduceAdd, Nat.reduceMul, Nat.reduceLeDiff, Nat.reduceSub, Nat.reduceBEq, Int.reduceEq, Int.reduceLT, Int.reduceLE, Int.reduceToNat, Int.reduceAdd, Int.reduceSub, Int.reduceNeg, UInt8.reduceToNat]
    refine e_call E ((f8_ok T root hs).wk hwt) rfl rfl (by simp) ?_
    rintro _ rfl
    simp only [go_sem, Nat.reduceEqDiff, Nat.reduceLT, ↓reduceIte, Nat.reduceAdd, Nat.reduceMul, Nat.reduceLeDiff, Nat.reduceSub, Nat.reduceBEq, Int.reduceEq, Int.reduceLT, Int.reduceLE, Int.reduceToNat, Int.reduceAdd, Int.reduceSub, Int.reduceNeg, UInt8.reduceToNat]
    rw [decide_eq_false (by simp [hm])]
    simp only [go_sem, Nat.reduceEqDiff, Nat.reduceLT, ↓reduceIte, Nat.reduceAdd, Nat.reduceMul, Nat.reduceLeDiff, Nat.reduceSub, Nat.reduceBEq, Int.reduceEq, Int.reduceLT, Int.reduceLE, Int.reduceToNat, Int.reduceAdd, Int.reduceSub, Int.reduceNeg, UInt8.reduceToNat]
    obtain ⟨⟨g2, g3⟩, g4, g5, g6⟩ := may_ok hm
    refine e_call E ((f10_ok T root g3 hs g5 g4).wk hwt) rfl rfl (by simp) ?_
    rintro _ ⟨l', rfl, hl'⟩
    obtain ⟨k1, k2⟩ := split_same g5 g4 hl hl'
    rw [k1, k2]
    unfold typeS intsD
    simp only [go_sem, Nat.reduceEqDiff, Nat.reduceLT, ↓reduceIte, Nat.reduceAdd, Nat.reduceMul, Nat.reduceLeDiff, Nat.reduceSub, Nat.reduceBEq, Int.reduceEq, Int.reduceLT, Int.reduceLE, Int.reduceToNat, Int.reduceAdd, Int.reduceSub, Int.reduceNeg, UInt8.reduceToNat]
    have hll := hl.2.2
    refine e_call E (f11_ok (l.map (splitN T l)) 0 (by simp; omega) (fun n hn => by obtain ⟨q, hq, rfl⟩ := List.mem_map.1 hn; exact split_fld hs hl hq)) rfl rfl (by simp) ?_
    rintro _ rfl
    simp only [go_sem, Nat.reduceEqDiff, Nat.reduceLT, ↓reduceIte, Nat.reduceAdd, Nat.reduceMul, Nat.reduceLeDiff, Nat.reduceSub, Nat.reduceBEq, Int.reduceEq, Int.reduceLT, Int.reduceLE, Int.reduceToNat, Int.reduceAdd, Int.reduceSub, Int.reduceNeg, UInt8.reduceToNat]
    refine e_call E (f12_ok (l.map (·.2)) (l.map (·.2)) (by simp; omega)) rfl rfl (by simp) ?_
    rintro _ rfl
    simp only [go_sem, Nat.reduceEqDiff, Nat.reduceLT, ↓reduceIte, Nat.reduceAdd, Nat.reduceMul, Nat.reduceLeDiff, Nat.reduceSub, Nat.reduceBEq, Int.reduceEq, Int.reduceLT, Int.reduceLE, Int.reduceToNat, Int.reduceAdd, Int.reduceSub, Int.reduceNeg, UInt8.reduceToNat]
    refine e_call E (f9_ok) rfl rfl (by simp) ?_
    rintro _ rfl
    simp only [go_sem, Nat.reduceEqDiff, Nat.reduceLT, ↓reduceIte, Nat.reduceAdd, Nat.reduceMul, Nat.reduceLeDiff, Nat.reduceSub, Nat.reduceBEq, Int.reduceEq, Int.reduceLT, Int.reduceLE, Int.reduceToNat, Int.reduceAdd, Int.reduceSub, Int.reduceNeg, UInt8.reduceToNat]
end Go.Proofs.Ytmplpdjddjiioaa
